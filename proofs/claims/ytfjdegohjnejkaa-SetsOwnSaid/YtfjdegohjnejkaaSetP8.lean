/-
  Sets of bytes: the program's own trial.
-/
import Derived.Test.YtfjdegohjnejkaaSetP7
namespace Go.Proofs.Ytfjdegohjnejkaa
open Go AW
set_option linter.unusedVariables false
set_option linter.unusedSimpArgs false
noncomputable section

theorem ixs {s : Str} {i : Nat} {c : UInt8} (h : s[i]? = some c) : ix s (i : Int) = some c := by rw [ix_nat]; exact h
theorem bt {α : Type} {b : Bool} {x y : Option α} (h : b = true) : (if b = true then x else y) = x := if_pos h
theorem bf {α : Type} {b : Bool} {x y : Option α} (h : b = false) : (if b = true then x else y) = y := by rw [h]; rfl

theorem f22_a : F22 ([94, 48, 45, 57, 93, 120] : Str) = some (sa fun n => !(false || ran 48 57 n), 5, 0, 0) := by
  have e1 : F38 ⟨([94, 48, 45, 57, 93, 120] : Str), 1, -1⟩ = some (⟨sa (one 48), 48, true⟩, ⟨[94, 48, 45, 57, 93, 120], 2, -1⟩) := f38_chr [94, 48, 45, 57, 93, 120] 1 (-1) 48 rfl (by simp) (by decide) (by decide)
  have e2 : F38 ⟨([94, 48, 45, 57, 93, 120] : Str), 3, -1⟩ = some (⟨sa (one 57), 57, true⟩, ⟨[94, 48, 45, 57, 93, 120], 4, -1⟩) := f38_chr [94, 48, 45, 57, 93, 120] 3 (-1) 57 rfl (by simp) (by decide) (by decide)
  have x0 : ix ([94, 48, 45, 57, 93, 120] : Str) 0 = some 94 := rfl
  have x2 : ix ([94, 48, 45, 57, 93, 120] : Str) 2 = some 45 := rfl
  have x3 : ix ([94, 48, 45, 57, 93, 120] : Str) 3 = some 57 := rfl
  have x4 : ix ([94, 48, 45, 57, 93, 120] : Str) 4 = some 93 := rfl
  have w1 : IntKind.wrap .i64 (0 + 1) = 1 := rfl
  have w2 : IntKind.wrap .i64 (2 + 1) = 3 := rfl
  have w3 : IntKind.wrap .i64 (4 + 1) = 5 := rfl
  have r : F20 48 57 = some (sa (ran 48 57)) := f20_eq 48 57 (by omega) (by omega)
  unfold F22
  rw [if_pos (by decide), x0, bs, G22.eq_1, if_pos (by decide), w1, G22.eq_2, G22.eq_3, if_pos (by decide), G22.eq_4, e1, bs]
  simp only []
  rw [if_neg (by decide), if_pos (by decide), w2, if_pos (by decide), x2, bs, if_pos (by decide), x3, bs, if_pos (by decide), e2, bs]
  simp only []
  rw [if_pos (by decide), if_neg (by decide), if_neg (by decide), G22.eq_7]
  simp only []
  rw [r, bs, G22.eq_8, if_neg (by decide), ← sa_none, f27_eq, bs, G22.eq_3, if_neg (by decide)]
  simp only []
  rw [if_neg (by decide), x4, bs, if_neg (by decide), G22.eq_5, if_neg (by decide), if_pos (by decide), f29_eq, bs, G22.eq_9, w3]
theorem f22_b : F22 ([99, 45, 97, 93] : Str) = some (Arr.rep 4 0, 0, 70, 2) := by
  have e1 : F38 ⟨([99, 45, 97, 93] : Str), 0, -1⟩ = some (⟨sa (one 99), 99, true⟩, ⟨[99, 45, 97, 93], 1, -1⟩) := f38_chr [99, 45, 97, 93] 0 (-1) 99 rfl (by simp) (by decide) (by decide)
  have e2 : F38 ⟨([99, 45, 97, 93] : Str), 2, -1⟩ = some (⟨sa (one 97), 97, true⟩, ⟨[99, 45, 97, 93], 3, -1⟩) := f38_chr [99, 45, 97, 93] 2 (-1) 97 rfl (by simp) (by decide) (by decide)
  have x0 : ix ([99, 45, 97, 93] : Str) 0 = some 99 := rfl
  have x1 : ix ([99, 45, 97, 93] : Str) 1 = some 45 := rfl
  have x2 : ix ([99, 45, 97, 93] : Str) 2 = some 97 := rfl
  have w1 : IntKind.wrap .i64 (1 + 1) = 2 := rfl
  have r : F20 99 97 = some (sa (ran 99 97)) := f20_eq 99 97 (by omega) (by omega)
  unfold F22
  rw [if_pos (by decide), x0, bs, G22.eq_1, if_neg (by decide), G22.eq_2, G22.eq_3, if_pos (by decide), G22.eq_4, e1, bs]
  simp only []
  rw [if_neg (by decide), if_pos (by decide), w1, if_pos (by decide), x1, bs, if_pos (by decide), x2, bs, if_pos (by decide), e2, bs]
  simp only []
  rw [if_pos (by decide), if_neg (by decide), if_pos (by decide), G22.eq_6]
  unfold F39
  simp only []
  rw [if_pos (by decide), bs, G22.eq_7]
  simp only []
  rw [r, bs, G22.eq_8, if_pos (by decide), G22.eq_5, if_pos (by decide)]
theorem sa_of3 : F12 (some ([99, 97, 98] : List Int)) = some (sa (ran 97 99)) := by
  rw [f12_eq _ [99, 97, 98] rfl (by simp) (by simp)]
  refine congrArg some (sa_ext fun n hn => ?_)
  rw [foldl_addS, ran, Bool.eq_iff_iff]
  simp
  omega
theorem prt_c : prt (ran 97 99) = [97, 45, 99, 93] := by
  have h1 : cnt (ran 97 99) 256 = 3 := by decide +kernel
  have h2 : bl (ran 97 99) 256 = [97, 98, 99] := by decide +kernel
  have t1 : tol 97 = [97] := rfl
  have t2 : tol 99 = [99] := rfl
  unfold prt
  rw [if_neg (by omega), h2]
  simp [prP, prQ, piece, t1, t2]
theorem f11_eq : F11 = some true := by
  have h1 := has_eq (fun n => !(false || ran 48 57 n)) 53 (by omega)
  have h2 := has_eq (fun n => !(false || ran 48 57 n)) 97 (by omega)
  have hc : cnt (fun n => !(false || ran 48 57 n)) 256 = 246 := by decide +kernel
  unfold F11
  rw [f22_a, bs, f22_b, bs]
  simp only []
  rw [if_pos (by decide), if_pos (by decide)]
  rw [show (53 : Int) = ((53 : Nat) : Int) from rfl, h1, bs, if_pos (by decide), show (97 : Int) = ((97 : Nat) : Int) from rfl, h2, bs, if_pos (by decide), f19_eq, bs, hc, if_pos (by decide), if_pos (by decide), if_pos (by decide)]
  rw [show (((97 : Nat) : Int)) = 97 from rfl, sa_of3, bs, f24_eq, bs, prt_c]
  rfl
end
end Go.Proofs.Ytfjdegohjnejkaa
