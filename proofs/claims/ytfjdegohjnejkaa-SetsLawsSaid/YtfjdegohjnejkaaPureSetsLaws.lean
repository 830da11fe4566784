/-
  Sets of bytes: what and, or, not, both cases and counting have to do with each other.
-/
import Derived.Test.YtfjdegohjnejkaaSetP8
namespace Go.Proofs.Ytfjdegohjnejkaa
open Go AW
set_option linter.unusedVariables false
set_option linter.unusedSimpArgs false

theorem cnt_or (f g : Nat → Bool) : ∀ m, cnt (fun n => f n || g n) m + cnt (fun n => f n && g n) m = cnt f m + cnt g m
  | 0 => rfl
  | m + 1 => by
    have ih := cnt_or f g m
    simp only [cnt_succ]
    cases f m <;> cases g m <;> simp <;> omega
theorem cnt_not (f : Nat → Bool) : ∀ m, cnt (fun n => !f n) m + cnt f m = m
  | 0 => rfl
  | m + 1 => by
    have ih := cnt_not f m
    simp only [cnt_succ]
    cases f m <;> simp <;> omega
theorem g8_eq (f g : Nat → Bool) : G8 (.p1 false (sa f) (sa g) (sa fun n => f n && g n) (sa fun n => f n || g n) (sa fun n => !f n)) = some true := by
  obtain ⟨o, h1, ho⟩ := f15_eq f
  have h2 := f12_eq o (bl f 256) ho (fun n hn => (bl_mem.1 hn).1) (by have := bl_len f 256; omega)
  have h3 : sa ((bl f 256).foldl addS fun _ => false) = sa f := sa_ext fun n hn => by
    rw [foldl_addS, Bool.or_false]
    rw [Bool.eq_iff_iff, decide_eq_true_iff, bl_mem]
    exact ⟨fun h => h.2, fun h => ⟨hn, h⟩⟩
  have e1 : sa (fun n => !(f n && g n)) = sa (fun n => !f n || !g n) := sa_ext fun n _ => by simp
  have e2 : sa (foldS (foldS f)) = sa (foldS f) := sa_ext fun n _ => by
    simp only [foldS, other_other]
    cases f n <;> cases f (other n) <;> rfl
  have e3 : sa (fun n => foldS f n && f n) = sa f := sa_ext fun n _ => by
    simp only [foldS]
    cases f n <;> simp
  have e4 : sa (fun n => !!f n) = sa f := sa_ext fun n _ => by simp
  have c1 := cnt_or f g 256
  have c2 := cnt_not f 256
  have l1 := cnt_le f 256
  have l2 := cnt_le g 256
  rw [G8, if_neg (by simp), f31_eq, bs, f29_eq, bs, f29_eq, bs, f27_eq, bs, if_pos (decide_eq_true e1), f19_eq, bs, f19_eq, bs, f19_eq, bs, f19_eq, bs,
    wrapi (((cnt f 256 : Nat) : Int) + _) (by omega) (by omega), wrapi _ (by omega) (by omega), if_pos (by rw [beq_iff_eq]; omega), f19_eq, bs, bs,
    wrapi _ (by omega) (by omega), if_pos (by rw [beq_iff_eq]; omega), h1, bs, h2, bs, if_pos (decide_eq_true h3), f31_eq, bs, if_pos (decide_eq_true e2), f25_eq, bs, if_pos (decide_eq_true e3), f29_eq, bs, decide_eq_true e4]

theorem pureSetsLaws (a0 : Arr 4 Int) (a1 : Arr 4 Int) (a2 : Int) (w0 : ∀ y ∈ a0.l, (Lit.int .u64 y).wf = true) (w1 : ∀ y ∈ a1.l, (Lit.int .u64 y).wf = true) (w2 : (Lit.int .u8 a2).wf = true) : F8 a0 a1 a2 = some true := by
  obtain ⟨f, rfl⟩ := sa_of a0 w0
  obtain ⟨g, rfl⟩ := sa_of a1 w1
  obtain ⟨c, rfl, hc⟩ := u8_nat w2
  unfold F8
  rw [f11_eq, bs, if_neg (by decide), has_eq f c hc, bs, has_eq g c hc, bs, f25_eq, bs, f27_eq, bs, f29_eq, bs, has_eq _ c hc, bs]
  cases hf : f c with
  | true =>
    rw [if_pos rfl, if_neg (by simp), has_eq _ c hc, bs, if_neg (by simp [hf]), has_eq _ c hc, bs, hf]
    exact g8_eq f g
  | false =>
    rw [if_neg (by simp), if_neg (by simp), has_eq _ c hc, bs, if_neg (by simp [hf]), has_eq _ c hc, bs, hf]
    exact g8_eq f g
end Go.Proofs.Ytfjdegohjnejkaa
