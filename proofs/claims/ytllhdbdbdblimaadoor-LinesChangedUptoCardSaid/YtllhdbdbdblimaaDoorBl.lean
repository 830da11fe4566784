/-
  The builder of strings.
-/
import Derived.Test.YtllhdbdbdblimaaDoorFwS5
import Derived.Test.YtllhdbdbdblimaaDoorProg
import Derived.WalkKit
set_option linter.unusedVariables false
set_option maxRecDepth 4000
set_option maxHeartbeats 4000000
namespace Go.Proofs.YtllhdbdbdblimaaDoor
open Go AW Go.RowKit
set_option maxRecDepth 100000
attribute [local irreducible] W WD SH XS XLoop DFun XCall
theorem cc_used (b : Nat) (w : World) (h0 : w.cell? ⟨b, 0, none⟩ = some (.pointer (some ⟨b, 0, none⟩))) :
    Calls Tryd.prog 55 #[.pointer (some ⟨b, 0, none⟩)] w fun e w' => e = .returned (.tuple #[]) ∧ w' = w := by
  obtain ⟨j, hj, _⟩ := Option.map_eq_some_iff.1 (show (Tryd.prog.info? 60).map (·.size) = some 2 by kernel_rfl)
  go_enter Tryd.func55, Tryd.ntmps55
  go_wp2
  rw [Lib.run_neq_ptr_same w _ Tryd.underlying57 hj]
  go_wp2
  go_end0
  exact ⟨rfl, rfl⟩
theorem cc_fresh (b : Nat) (w : World) (h0 : w.cell? ⟨b, 0, none⟩ = some (.pointer none)) (hsh : w.shape? b = some (60, 2)) (hfz : w.frozen? ⟨b, 0, none⟩ = false) :
    Calls Tryd.prog 55 #[.pointer (some ⟨b, 0, none⟩)] w fun e w' => e = .returned (.tuple #[]) ∧ w' = w.setCell ⟨b, 0, none⟩ (.pointer (some ⟨b, 0, none⟩)) := by
  obtain ⟨j, hj, hjs⟩ := Option.map_eq_some_iff.1 (show (Tryd.prog.info? 60).map (·.size) = some 2 by kernel_rfl)
  go_enter Tryd.func55, Tryd.ntmps55
  go_wp2
  rw [Lib.run_to_unsafe w ⟨b, 0, none⟩ Tryd.underlying57 Tryd.underlying94 hj (by rw [hjs]; decide) hsh (Nat.zero_lt_succ 1)]
  simp only [Result.andThen]
  rw [Oper.upon_value]
  go_wp2
  rw [run_callFunc_extern Tryd.func62 (by kernel_rfl) (by kernel_rfl) (by kernel_rfl) (e := Extern.AbiNoEscape.same) (by kernel_rfl)]
  rw [Lib.run_noEscape]
  simp only [Result.andThen]
  rw [Oper.upon_value]
  go_wp2
  rw [Lib.run_from_unsafe w ⟨b, 0, none⟩ Tryd.underlying94 Tryd.underlying57 hj hsh (by kernel_rfl)]
  simp only [Result.andThen]
  rw [Oper.upon_value]
  go_wp2
  go_end0
  exact ⟨rfl, rfl⟩
theorem st_nil (b : Nat) (w : World) (h1 : w.cell? ⟨b, 1, none⟩ = some (.slice none 0 0)) :
    Calls Tryd.prog 42 #[.pointer (some ⟨b, 0, none⟩)] w fun e w' => e = .returned (.string ⟨#[]⟩) ∧ w' = w.drew := by
  have c1 : w.drew.cell? ⟨b, 1, none⟩ = some (.slice none 0 0) := h1
  have hUS := fun (W : World) (q : Option Addr) => Lib.run_unsafeString_none (P := Tryd.prog) W 86 3 9 q
  have hSD : (Builtin.unsafeSliceData_ #[58] 86 #[.slice none 0 0]).run Tryd.prog w.drew = .ok (.pointer none) w.drew := rfl
  go_enter Tryd.func42, Tryd.ntmps42
  go_wp2
  go_region
  all_goals (go_wp2; go_ret; exact ⟨rfl, rfl⟩)
theorem st_row (b g cap cells : Nat) (l : List UInt8) (w : World) (hne : l ≠ []) (h1 : w.cell? ⟨b, 1, none⟩ = some (.slice (some ⟨g, 0, none⟩) l.length cap)) (hlc : l.length ≤ cap) (hsh : w.shape? g = some (5, cells)) (hls : l.length ≤ cells) (hl : l.length ≤ 9223372036854775807)
    (hc : ∀ j x, l[j]? = some x → w.cell? ⟨g, j, none⟩ = some (.int .u8 x.toNat)) :
    Calls Tryd.prog 42 #[.pointer (some ⟨b, 0, none⟩)] w fun e w' => e = .returned (.string ⟨l.toArray⟩) ∧ w' = w.drew.freeze ⟨g, 0, none⟩ l.length := by
  have c1 : w.drew.cell? ⟨b, 1, none⟩ = some (.slice (some ⟨g, 0, none⟩) l.length cap) := h1
  have h0 : l.length ≠ 0 := by simpa using hne
  have hSD : (Builtin.unsafeSliceData_ #[58] 86 #[.slice (some ⟨g, 0, none⟩) l.length cap]).run Tryd.prog w.drew = .ok (.pointer (some ⟨g, 0, none⟩)) w.drew :=
    Lib.run_unsafeSliceData_row _ _ _ _ _ _ (by omega)
  have hUS : (Builtin.unsafeString_ #[86, 3] 9 #[.pointer (some ⟨g, 0, none⟩), .int .i64 l.length]).run Tryd.prog w.drew = .ok (.string ⟨l.toArray⟩) (w.drew.freeze ⟨g, 0, none⟩ l.length) :=
    Lib.run_unsafeString_row w.drew 86 3 9 5 Tryd.underlying86 (by kernel_rfl) g cells hsh l hne hls hl fun j x hx => by
      have e : ({ block := g, off := 0 } : Addr).add j = ⟨g, j, none⟩ := (addr_add g 0 j).trans (by rw [Nat.zero_add])
      rw [e]; exact hc j x hx
  clear hc h0 hlc hsh hls
  go_enter Tryd.func42, Tryd.ntmps42
  go_wp2
  go_region
  all_goals (go_wp2; go_ret; exact ⟨rfl, rfl⟩)
theorem cc {E : Glob} {id : Nat} {s : Str} {Ls : List Asn} (K : AV → Store → Prop) (st : Store) (hs : SH st (bldA 60 5 id s :: Ls)) (hK : ∀ st, SH st (bldU 5 id s :: Ls) → K (.tup []) st) : XCall Tryd.prog E 55 [.ptr id 0] st K := bld_check cc_fresh cc_used hs hK
theorem dST {E : Glob} (b : Str) (r : Str) (hF : bST b = some r) : ∀ (K : AV → Store → Prop) (Ls : List Asn) (iP0 : Nat), (∀ st, SH st Ls → K (AV.str r) st) → ∀ (st : Store), SH st (bldA 60 5 iP0 b :: Ls) → XCall Tryd.prog E 42 [.ptr iP0 0] st K := by
  intro K Ls iP0 hK st hs
  unfold bST at hF
  split at hF
  · rename_i h; cases hF; exact bld_string st_nil st_row h hs hK
  · cases hF
theorem kWS : compF Tryd.prog (muL [14]) 40 = some ⟨19, wsC 55 5, [.tmp 4, .tmp 5]⟩ := by kernel_rfl
theorem dWS {E : Glob} (b s : Str) (r : Int × Unit × Str) (hF : bWS b s = some r) : ∀ (K : AV → Store → Prop) (Ls : List Asn) (iP0 : Nat), (∀ st, SH st (bldA 60 5 iP0 r.2.2 :: Ls) → K (AV.tup [AV.int .i64 r.1, vNif r.2.1]) st) → ∀ (st : Store), SH st (bldA 60 5 iP0 b :: Ls) → XCall Tryd.prog E 40 [.ptr iP0 0, .str s] st K := by
  intro K Ls iP0 hK st hs
  unfold bWS at hF
  split at hF
  · rename_i h; cases hF; exact bld_ws kWS cc h hs hK
  · cases hF
theorem kWB : compF Tryd.prog (muL [14]) 41 = some ⟨17, wbC 55 5, [.tmp 4]⟩ := by kernel_rfl
theorem dWB {E : Glob} (b : Str) (n : Int) (r : Unit × Str) (hF : bWB b n = some r) : ∀ (K : AV → Store → Prop) (Ls : List Asn) (iP0 : Nat), (∀ st, SH st (bldA 60 5 iP0 r.2 :: Ls) → K (vNif r.1) st) → ∀ (st : Store), SH st (bldA 60 5 iP0 b :: Ls) → XCall Tryd.prog E 41 [.ptr iP0 0, .int .u8 n] st K := by
  intro K Ls iP0 hK st hs
  unfold bWB at hF
  split at hF
  · rename_i h; cases hF; exact bld_wb kWB cc h.1 h.2 hs hK
  · cases hF

end Go.Proofs.YtllhdbdbdblimaaDoor
