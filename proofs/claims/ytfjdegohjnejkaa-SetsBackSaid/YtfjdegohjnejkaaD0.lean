/-
  Functions of the program's as plain functions.
-/
import Derived.Test.YtfjdegohjnejkaaTy
set_option linter.unusedVariables false
set_option maxRecDepth 4000
set_option maxHeartbeats 4000000
namespace Go.Proofs.Ytfjdegohjnejkaa
open Go AW
attribute [local irreducible] At AtL AtO AtN AtX AtR AtD XS XLoop DFun XCall
/-! ### 17: paddock/sets.Has -/
def O17_2 : List AOp := [⟨(.some 2), .none, (.plain (.box 4 (.t 0)))⟩, ⟨(.some 4), .none, (.plain (.mv (.c (.bool false))))⟩]
def C17_2 : ACode := .ops O17_2
def O17_4_1 : List AOp := ⟨(.some 13), .none, (.plain (.binI .eql (.t 12) (.c (.int .u64 1))))⟩ :: ⟨(.some 4), .none, (.plain (.mv (.t 13)))⟩ :: []
def O17_4 : List AOp := ⟨(.some 5), .none, (.plain (.mv (.t 1)))⟩ :: ⟨(.some 6), .none, (.plain (.binI .quo (.t 5) (.c (.int .u8 64))))⟩ :: ⟨(.some 7), .none, (.plain (.iaddrA 4 1 (.t 2) (.t 6)))⟩ :: ⟨(.some 8), .none, (.plain (.load1 (.t 7)))⟩ :: ⟨(.some 9), .none, (.plain (.mv (.t 1)))⟩ :: ⟨(.some 10), .none, (.plain (.binI .rem (.t 9) (.c (.int .u8 64))))⟩ :: ⟨(.some 11), .none, (.plain (.binI .shr (.t 8) (.t 10)))⟩ :: ⟨(.some 12), .none, (.plain (.binI .and (.t 11) (.c (.int .u64 1))))⟩ :: O17_4_1
def C17_4 : ACode := .ops O17_4
def C17_5 : ACode := .ret
def C17_3 : ACode := .seq C17_4 C17_5
def C17_1 : ACode := .seq C17_2 C17_3
def R17 : List RA := [(.tmp 4)]
theorem k17 : compF Try.prog (muL []) 17 = some ⟨14, C17_1, R17⟩ := by kernel_rfl
noncomputable def X17 (r : Bool) : Cx := ⟨Try.prog, noG, 14, muL [], R17, isD (fun x => x = AV.bool r)⟩
noncomputable def F17 (s : Arr 4 Int) (c : Int) : Option Bool :=
  (if 0 ≤ (IntKind.wrap .u8 (Int.tdiv c 64)) ∧ (IntKind.wrap .u8 (Int.tdiv c 64)) < (4 : Int) then
    (ix s.l (IntKind.wrap .u8 (Int.tdiv c 64)) >>= fun v8 =>
      (if 0 ≤ (Int.tmod c 64) then
        (some ((andI .u64 (shrI .u64 v8 (Int.tmod c 64)) 1) == 1))
      else none))
  else none)
theorem d17 (s : Arr 4 Int) (c : Int) (r : Bool) (hF : F17 s c = some r) : DFun Try.prog noG 17 [AV.agg (c24 s), AV.int .u8 c] (AV.bool r) := by
  unfold F17 at hF
  refine dfun_at k17 (Nat.le_of_ble_eq_true rfl) ?_
  show At (X17 r) _ _ _ _
  refine at_seq (a := C17_2) (b := C17_3) ?_
  refine at_ops (l := O17_2) ?_
  refine xo_box (cs := c24 s) rfl rfl (c24_len _) fun s2 i3 o4 k5 q6 => ?_
  refine xo (e_mv' (v := AV.bool false) rfl) ?_
  refine ato_nil ?_
  refine atn_seq ?_
  refine at_seq (a := C17_4) (b := C17_5) ?_
  refine at_ops (l := O17_4) ?_
  refine xo (e_mv' (v := AV.int .u8 c) rfl) ?_
  refine xo (e_bin rfl rfl (op_quo _ _ _ (by decide))) ?_
  obtain ⟨g7, hF⟩ := grd_some hF
  refine xo (e_iaddrA rfl o4 rfl g7) ?_
  obtain ⟨v8, g9, hF⟩ := bind_some hF
  refine xo (e_load1 rfl o4 (LR.comp (LR.whole _ _) (lr_get (cI_len .u64) g9))) ?_
  refine xo (e_mv' (v := AV.int .u8 c) rfl) ?_
  refine xo (e_bin rfl rfl (op_rem _ _ _ (by decide))) ?_
  obtain ⟨g10, hF⟩ := grd_some hF
  refine xo (e_bin rfl rfl (op_shr _ _ _ _ g10)) ?_
  refine xo (e_bin rfl rfl (op_and _ _ _)) ?_
  refine xo (e_bin (v := .bool (((andI .u64 (shrI .u64 v8 (Int.tmod c 64)) 1) == 1))) rfl rfl rfl) ?_
  refine xo (e_mv' (v := AV.bool ((andI .u64 (shrI .u64 v8 (Int.tmod c 64)) 1) == 1)) rfl) ?_
  refine ato_nil ?_
  refine atn_seq ?_
  refine at_ret ?_
  cases hF
  exact atr (rl_tmp rfl rl_nil) (isd (ds_eq rfl ds_b))
/-! ### 18: paddock/paddockref07.Has -/
def O18_2 : List AOp := [⟨(.some 2), .none, (.plain (.box 4 (.t 0)))⟩, ⟨(.some 4), .none, (.plain (.mv (.c (.bool false))))⟩]
def C18_2 : ACode := .ops O18_2
def O18_4_1 : List AOp := ⟨(.some 13), .none, (.plain (.binI .eql (.t 12) (.c (.int .u64 1))))⟩ :: ⟨(.some 4), .none, (.plain (.mv (.t 13)))⟩ :: []
def O18_4 : List AOp := ⟨(.some 5), .none, (.plain (.mv (.t 1)))⟩ :: ⟨(.some 6), .none, (.plain (.binI .quo (.t 5) (.c (.int .u8 64))))⟩ :: ⟨(.some 7), .none, (.plain (.iaddrA 4 1 (.t 2) (.t 6)))⟩ :: ⟨(.some 8), .none, (.plain (.load1 (.t 7)))⟩ :: ⟨(.some 9), .none, (.plain (.mv (.t 1)))⟩ :: ⟨(.some 10), .none, (.plain (.binI .rem (.t 9) (.c (.int .u8 64))))⟩ :: ⟨(.some 11), .none, (.plain (.binI .shr (.t 8) (.t 10)))⟩ :: ⟨(.some 12), .none, (.plain (.binI .and (.t 11) (.c (.int .u64 1))))⟩ :: O18_4_1
def C18_4 : ACode := .ops O18_4
def C18_5 : ACode := .ret
def C18_3 : ACode := .seq C18_4 C18_5
def C18_1 : ACode := .seq C18_2 C18_3
def R18 : List RA := [(.tmp 4)]
theorem k18 : compF Try.prog (muL []) 18 = some ⟨14, C18_1, R18⟩ := by kernel_rfl
noncomputable def X18 (r : Bool) : Cx := ⟨Try.prog, noG, 14, muL [], R18, isD (fun x => x = AV.bool r)⟩
noncomputable def F18 (s : Arr 4 Int) (c : Int) : Option Bool :=
  (if 0 ≤ (IntKind.wrap .u8 (Int.tdiv c 64)) ∧ (IntKind.wrap .u8 (Int.tdiv c 64)) < (4 : Int) then
    (ix s.l (IntKind.wrap .u8 (Int.tdiv c 64)) >>= fun v8 =>
      (if 0 ≤ (Int.tmod c 64) then
        (some ((andI .u64 (shrI .u64 v8 (Int.tmod c 64)) 1) == 1))
      else none))
  else none)
theorem d18 (s : Arr 4 Int) (c : Int) (r : Bool) (hF : F18 s c = some r) : DFun Try.prog noG 18 [AV.agg (c24 s), AV.int .u8 c] (AV.bool r) := by
  unfold F18 at hF
  refine dfun_at k18 (Nat.le_of_ble_eq_true rfl) ?_
  show At (X18 r) _ _ _ _
  refine at_seq (a := C18_2) (b := C18_3) ?_
  refine at_ops (l := O18_2) ?_
  refine xo_box (cs := c24 s) rfl rfl (c24_len _) fun s2 i3 o4 k5 q6 => ?_
  refine xo (e_mv' (v := AV.bool false) rfl) ?_
  refine ato_nil ?_
  refine atn_seq ?_
  refine at_seq (a := C18_4) (b := C18_5) ?_
  refine at_ops (l := O18_4) ?_
  refine xo (e_mv' (v := AV.int .u8 c) rfl) ?_
  refine xo (e_bin rfl rfl (op_quo _ _ _ (by decide))) ?_
  obtain ⟨g7, hF⟩ := grd_some hF
  refine xo (e_iaddrA rfl o4 rfl g7) ?_
  obtain ⟨v8, g9, hF⟩ := bind_some hF
  refine xo (e_load1 rfl o4 (LR.comp (LR.whole _ _) (lr_get (cI_len .u64) g9))) ?_
  refine xo (e_mv' (v := AV.int .u8 c) rfl) ?_
  refine xo (e_bin rfl rfl (op_rem _ _ _ (by decide))) ?_
  obtain ⟨g10, hF⟩ := grd_some hF
  refine xo (e_bin rfl rfl (op_shr _ _ _ _ g10)) ?_
  refine xo (e_bin rfl rfl (op_and _ _ _)) ?_
  refine xo (e_bin (v := .bool (((andI .u64 (shrI .u64 v8 (Int.tmod c 64)) 1) == 1))) rfl rfl rfl) ?_
  refine xo (e_mv' (v := AV.bool ((andI .u64 (shrI .u64 v8 (Int.tmod c 64)) 1) == 1)) rfl) ?_
  refine ato_nil ?_
  refine atn_seq ?_
  refine at_ret ?_
  cases hF
  exact atr (rl_tmp rfl rl_nil) (isd (ds_eq rfl ds_b))
/-! ### 36: paddock/sets.add -/
def O36_2 : List AOp := [⟨(.some 2), .none, (.plain (.box 4 (.t 0)))⟩, ⟨(.some 4), .none, (.plain (.alloc [(.int .u64 0), (.int .u64 0), (.int .u64 0), (.int .u64 0)]))⟩]
def C36_2 : ACode := .ops O36_2
def O36_4_1 : List AOp := ⟨(.some 13), .none, (.plain (.iaddrA 4 1 (.t 2) (.t 6)))⟩ :: ⟨.none, .none, (.plain (.store 1 (.t 13) (.t 12)))⟩ :: []
def O36_4 : List AOp := ⟨(.some 5), .none, (.plain (.mv (.t 1)))⟩ :: ⟨(.some 6), .none, (.plain (.binI .quo (.t 5) (.c (.int .u8 64))))⟩ :: ⟨(.some 7), .none, (.plain (.iaddrA 4 1 (.t 2) (.t 6)))⟩ :: ⟨(.some 8), .none, (.plain (.load1 (.t 7)))⟩ :: ⟨(.some 9), .none, (.plain (.mv (.t 1)))⟩ :: ⟨(.some 10), .none, (.plain (.binI .rem (.t 9) (.c (.int .u8 64))))⟩ :: ⟨(.some 11), .none, (.plain (.binI .shl (.c (.int .u64 1)) (.t 10)))⟩ :: ⟨(.some 12), .none, (.plain (.binI .or (.t 8) (.t 11)))⟩ :: O36_4_1
def C36_4 : ACode := .ops O36_4
def O36_6 : List AOp := [⟨(.some 14), .none, (.plain (.loadN 4 (.t 2)))⟩, ⟨.none, .none, (.plain (.store 4 (.t 4) (.t 14)))⟩]
def C36_6 : ACode := .ops O36_6
def C36_7 : ACode := .ret
def C36_5 : ACode := .seq C36_6 C36_7
def C36_3 : ACode := .seq C36_4 C36_5
def C36_1 : ACode := .seq C36_2 C36_3
def R36 : List RA := [(.cellN 4 4)]
theorem k36 : compF Try.prog (muL []) 36 = some ⟨15, C36_1, R36⟩ := by kernel_rfl
noncomputable def X36 (r : Arr 4 Int) : Cx := ⟨Try.prog, noG, 15, muL [], R36, isD (fun x => x = AV.agg (c24 r))⟩
noncomputable def F36 (s : Arr 4 Int) (c : Int) : Option (Arr 4 Int) :=
  (if 0 ≤ (IntKind.wrap .u8 (Int.tdiv c 64)) ∧ (IntKind.wrap .u8 (Int.tdiv c 64)) < (4 : Int) then
    (ix s.l (IntKind.wrap .u8 (Int.tdiv c 64)) >>= fun v16 =>
      (if 0 ≤ (Int.tmod c 64) then
        (if 0 ≤ (IntKind.wrap .u8 (Int.tdiv c 64)) ∧ (IntKind.wrap .u8 (Int.tdiv c 64)) < (4 : Int) then
          (some (aset s (IntKind.wrap .u8 (Int.tdiv c 64)) (orI .u64 v16 (shlI .u64 1 (Int.tmod c 64)))))
        else none)
      else none))
  else none)
theorem d36 (s : Arr 4 Int) (c : Int) (r : Arr 4 Int) (hF : F36 s c = some r) : DFun Try.prog noG 36 [AV.agg (c24 s), AV.int .u8 c] (AV.agg (c24 r)) := by
  unfold F36 at hF
  refine dfun_at k36 (Nat.le_of_ble_eq_true rfl) ?_
  show At (X36 r) _ _ _ _
  refine at_seq (a := C36_2) (b := C36_3) ?_
  refine at_ops (l := O36_2) ?_
  refine xo_box (cs := c24 s) rfl rfl (c24_len _) fun s2 i3 o4 k5 q6 => ?_
  refine xo_alloc (cs := c24 (Arr.rep 4 0)) rfl fun s8 i9 o10 k11 q12 => ?_
  have n13 : i3 ≠ i9 := fun e => ne_new o4 (e.trans q12)
  have o14 := keep0 k11 o4
  refine ato_nil ?_
  refine atn_seq ?_
  refine at_seq (a := C36_4) (b := C36_5) ?_
  refine at_ops (l := O36_4) ?_
  refine xo (e_mv' (v := AV.int .u8 c) rfl) ?_
  refine xo (e_bin rfl rfl (op_quo _ _ _ (by decide))) ?_
  obtain ⟨g15, hF⟩ := grd_some hF
  refine xo (e_iaddrA rfl o14 rfl g15) ?_
  obtain ⟨v16, g17, hF⟩ := bind_some hF
  refine xo (e_load1 rfl o14 (LR.comp (LR.whole _ _) (lr_get (cI_len .u64) g17))) ?_
  refine xo (e_mv' (v := AV.int .u8 c) rfl) ?_
  refine xo (e_bin rfl rfl (op_rem _ _ _ (by decide))) ?_
  obtain ⟨g18, hF⟩ := grd_some hF
  refine xo (e_bin rfl rfl (op_shl _ _ _ _ g18)) ?_
  refine xo (e_bin rfl rfl (op_or _ _ _)) ?_
  obtain ⟨g19, hF⟩ := grd_some hF
  refine xo (e_iaddrA rfl o14 rfl g19) ?_
  obtain ⟨y20, g21⟩ := ix_in s g19 rfl
  refine xo_store rfl o14 (LR.comp (LR.whole _ _) (lr_set (cI_len .u64) g21 (orI .u64 v16 (shlI .u64 1 (Int.tmod c 64))))) ((cI_len .u64) _) rfl rfl ((cI_len .u64) _) ((cI_one .u64) _) fun s22 o23 k24 => ?_
  have o25 := k24 _ _ o10 (Ne.symm n13)
  refine ato_nil ?_
  refine atn_seq ?_
  refine at_seq (a := C36_6) (b := C36_7) ?_
  refine at_ops (l := O36_6) ?_
  refine xo (e_loadN rfl o23 (LR.whole _ _) (c24_len _)) ?_
  refine xo_store rfl o25 (LR.whole _ _) (c24_len _) rfl rfl (c24_len _) (c24_one _) fun s26 o27 k28 => ?_
  refine ato_nil ?_
  refine atn_seq ?_
  refine at_ret ?_
  cases hF
  exact atr (rl_cellN rfl o27 (LR.whole _ _) (c24_len _) rl_nil) (isd (ds_eq rfl (ds_agg (c24_ds _))))
/-! ### 35: paddock/paddockref07.Add -/
def O35_2 : List AOp := [⟨(.some 2), .none, (.plain (.box 4 (.t 0)))⟩, ⟨(.some 4), .none, (.plain (.alloc [(.int .u64 0), (.int .u64 0), (.int .u64 0), (.int .u64 0)]))⟩]
def C35_2 : ACode := .ops O35_2
def O35_5 : List AOp := [⟨(.some 5), .none, (.plain (.loadN 4 (.t 2)))⟩, ⟨(.some 6), .none, (.plain (.mv (.t 1)))⟩, ⟨(.some 7), .none, (.call 18 [(.t 5), (.t 6)])⟩, ⟨(.some 8), .none, (.plain (.un .not (.t 7)))⟩]
def C35_5 : ACode := .ops O35_5
def O35_7_1 : List AOp := ⟨(.some 17), .none, (.plain (.iaddrA 4 1 (.t 2) (.t 10)))⟩ :: ⟨.none, .none, (.plain (.store 1 (.t 17) (.t 16)))⟩ :: []
def O35_7 : List AOp := ⟨(.some 9), .none, (.plain (.mv (.t 1)))⟩ :: ⟨(.some 10), .none, (.plain (.binI .quo (.t 9) (.c (.int .u8 64))))⟩ :: ⟨(.some 11), .none, (.plain (.iaddrA 4 1 (.t 2) (.t 10)))⟩ :: ⟨(.some 12), .none, (.plain (.load1 (.t 11)))⟩ :: ⟨(.some 13), .none, (.plain (.mv (.t 1)))⟩ :: ⟨(.some 14), .none, (.plain (.binI .rem (.t 13) (.c (.int .u8 64))))⟩ :: ⟨(.some 15), .none, (.plain (.binI .shl (.c (.int .u64 1)) (.t 14)))⟩ :: ⟨(.some 16), .none, (.plain (.binI .add (.t 12) (.t 15)))⟩ :: O35_7_1
def C35_7 : ACode := .ops O35_7
def C35_8 : ACode := .skip
def C35_6 : ACode := .cond (.t 8) C35_7 C35_8
def C35_4 : ACode := .seq C35_5 C35_6
def O35_10 : List AOp := [⟨(.some 18), .none, (.plain (.loadN 4 (.t 2)))⟩, ⟨.none, .none, (.plain (.store 4 (.t 4) (.t 18)))⟩]
def C35_10 : ACode := .ops O35_10
def C35_11 : ACode := .ret
def C35_9 : ACode := .seq C35_10 C35_11
def C35_3 : ACode := .seq C35_4 C35_9
def C35_1 : ACode := .seq C35_2 C35_3
def R35 : List RA := [(.cellN 4 4)]
theorem k35 : compF Try.prog (muL []) 35 = some ⟨19, C35_1, R35⟩ := by kernel_rfl
noncomputable def X35 (r : Arr 4 Int) : Cx := ⟨Try.prog, noG, 19, muL [], R35, isD (fun x => x = AV.agg (c24 r))⟩
noncomputable def F35 (s : Arr 4 Int) (c : Int) : Option (Arr 4 Int) :=
  (F18 s c >>= fun r15 =>
    (if (!r15) = true then
      (if 0 ≤ (IntKind.wrap .u8 (Int.tdiv c 64)) ∧ (IntKind.wrap .u8 (Int.tdiv c 64)) < (4 : Int) then
        (ix s.l (IntKind.wrap .u8 (Int.tdiv c 64)) >>= fun v19 =>
          (if 0 ≤ (Int.tmod c 64) then
            (if 0 ≤ (IntKind.wrap .u8 (Int.tdiv c 64)) ∧ (IntKind.wrap .u8 (Int.tdiv c 64)) < (4 : Int) then
              (some (aset s (IntKind.wrap .u8 (Int.tdiv c 64)) (IntKind.wrap .u64 (v19 + (shlI .u64 1 (Int.tmod c 64))))))
            else none)
          else none))
      else none)
    else
      (some s)))
theorem d35 (s : Arr 4 Int) (c : Int) (r : Arr 4 Int) (hF : F35 s c = some r) : DFun Try.prog noG 35 [AV.agg (c24 s), AV.int .u8 c] (AV.agg (c24 r)) := by
  unfold F35 at hF
  refine dfun_at k35 (Nat.le_of_ble_eq_true rfl) ?_
  show At (X35 r) _ _ _ _
  refine at_seq (a := C35_2) (b := C35_3) ?_
  refine at_ops (l := O35_2) ?_
  refine xo_box (cs := c24 s) rfl rfl (c24_len _) fun s2 i3 o4 k5 q6 => ?_
  refine xo_alloc (cs := c24 (Arr.rep 4 0)) rfl fun s8 i9 o10 k11 q12 => ?_
  have n13 : i3 ≠ i9 := fun e => ne_new o4 (e.trans q12)
  have o14 := keep0 k11 o4
  refine ato_nil ?_
  refine atn_seq ?_
  refine at_seq (a := C35_4) (b := C35_9) ?_
  refine at_seq (a := C35_5) (b := C35_6) ?_
  refine at_ops (l := O35_5) ?_
  refine xo (e_loadN rfl o14 (LR.whole _ _) (c24_len _)) ?_
  refine xo (e_mv' (v := AV.int .u8 c) rfl) ?_
  obtain ⟨r15, g16, hF⟩ := bind_some hF
  refine xo_dfun' (d18 s c _ g16) (dsl_cons (ds_eq rfl (ds_agg (c24_ds _))) (dsl_cons (ds_eq rfl ds_i) dsl_nil)) ?_
  refine xo (e_not rfl) ?_
  refine ato_nil ?_
  refine atn_seq ?_
  refine at_cond (x := C35_7) (y := C35_8) rfl (fun c17 => ?_) (fun c17 => ?_)
  · have hF := ite_t c17 hF
    refine at_ops (l := O35_7) ?_
    refine xo (e_mv' (v := AV.int .u8 c) rfl) ?_
    refine xo (e_bin rfl rfl (op_quo _ _ _ (by decide))) ?_
    obtain ⟨g18, hF⟩ := grd_some hF
    refine xo (e_iaddrA rfl o14 rfl g18) ?_
    obtain ⟨v19, g20, hF⟩ := bind_some hF
    refine xo (e_load1 rfl o14 (LR.comp (LR.whole _ _) (lr_get (cI_len .u64) g20))) ?_
    refine xo (e_mv' (v := AV.int .u8 c) rfl) ?_
    refine xo (e_bin rfl rfl (op_rem _ _ _ (by decide))) ?_
    obtain ⟨g21, hF⟩ := grd_some hF
    refine xo (e_bin rfl rfl (op_shl _ _ _ _ g21)) ?_
    refine xo (e_bin (v := .int .u64 (IntKind.wrap .u64 (v19 + (shlI .u64 1 (Int.tmod c 64))))) rfl rfl rfl) ?_
    obtain ⟨g22, hF⟩ := grd_some hF
    refine xo (e_iaddrA rfl o14 rfl g22) ?_
    obtain ⟨y23, g24⟩ := ix_in s g22 rfl
    refine xo_store rfl o14 (LR.comp (LR.whole _ _) (lr_set (cI_len .u64) g24 (IntKind.wrap .u64 (v19 + (shlI .u64 1 (Int.tmod c 64)))))) ((cI_len .u64) _) rfl rfl ((cI_len .u64) _) ((cI_one .u64) _) fun s25 o26 k27 => ?_
    have o28 := k27 _ _ o10 (Ne.symm n13)
    refine ato_nil ?_
    refine atn_seq ?_
    refine at_seq (a := C35_10) (b := C35_11) ?_
    refine at_ops (l := O35_10) ?_
    refine xo (e_loadN rfl o26 (LR.whole _ _) (c24_len _)) ?_
    refine xo_store rfl o28 (LR.whole _ _) (c24_len _) rfl rfl (c24_len _) (c24_one _) fun s29 o30 k31 => ?_
    refine ato_nil ?_
    refine atn_seq ?_
    refine at_ret ?_
    cases hF
    exact atr (rl_cellN rfl o30 (LR.whole _ _) (c24_len _) rl_nil) (isd (ds_eq rfl (ds_agg (c24_ds _))))
  · have hF := ite_f c17 hF
    refine at_skip ?_
    refine atn_seq ?_
    refine at_seq (a := C35_10) (b := C35_11) ?_
    refine at_ops (l := O35_10) ?_
    refine xo (e_loadN rfl o14 (LR.whole _ _) (c24_len _)) ?_
    refine xo_store rfl o10 (LR.whole _ _) (c24_len _) rfl rfl (c24_len _) (c24_one _) fun s32 o33 k34 => ?_
    refine ato_nil ?_
    refine atn_seq ?_
    refine at_ret ?_
    cases hF
    exact atr (rl_cellN rfl o33 (LR.whole _ _) (c24_len _) rl_nil) (isd (ds_eq rfl (ds_agg (c24_ds _))))
/-! ### 12: paddock/sets.Of -/
def O12_2 : List AOp := [⟨(.some 2), .none, (.plain (.alloc [(.int .u64 0), (.int .u64 0), (.int .u64 0), (.int .u64 0)]))⟩]
def C12_2 : ACode := .ops O12_2
def O12_4 : List AOp := [⟨(.some 3), .none, (.plain (.alloc [(.int .u64 0), (.int .u64 0), (.int .u64 0), (.int .u64 0)]))⟩]
def C12_4 : ACode := .ops O12_4
def O12_7 : List AOp := [⟨(.some 6), .none, (.plain (.mv (.t 0)))⟩, ⟨(.some 7), .none, (.plain (.len (.t 6)))⟩, ⟨(.some 8), .none, (.plain (.mv (.c (.int .i64 0))))⟩]
def C12_7 : ACode := .ops O12_7
def O12_11 : List AOp := [⟨(.some 9), .none, (.plain (.binI .lss (.t 8) (.t 7)))⟩]
def C12_11 : ACode := .ops O12_11
def C12_14 : ACode := .skip
def C12_15 : ACode := .exit 0
def C12_13 : ACode := .cond (.t 9) C12_14 C12_15
def O12_19 : List AOp := [⟨(.some 10), .none, (.plain (.iaddrL 1 (.t 6) (.t 8)))⟩, ⟨(.some 11), .none, (.plain (.load1 (.t 10)))⟩, ⟨(.some 5), .none, (.plain (.mv (.t 11)))⟩]
def C12_19 : ACode := .ops O12_19
def O12_20 : List AOp := [⟨(.some 12), .none, (.plain (.loadN 4 (.t 3)))⟩, ⟨(.some 13), .none, (.plain (.mv (.t 5)))⟩, ⟨(.some 14), .none, (.call 36 [(.t 12), (.t 13)])⟩, ⟨.none, .none, (.plain (.store 4 (.t 3) (.t 14)))⟩]
def C12_20 : ACode := .ops O12_20
def C12_18 : ACode := .seq C12_19 C12_20
def C12_17 : ACode := .block 1 C12_18
def O12_21 : List AOp := [⟨(.some 15), .none, (.plain (.binI .add (.t 8) (.c (.int .i64 1))))⟩, ⟨(.some 8), .none, (.plain (.mv (.t 15)))⟩]
def C12_21 : ACode := .ops O12_21
def C12_16 : ACode := .seq C12_17 C12_21
def C12_12 : ACode := .seq C12_13 C12_16
def C12_10 : ACode := .seq C12_11 C12_12
def C12_9 : ACode := .loop C12_10
def C12_8 : ACode := .block 0 C12_9
def C12_6 : ACode := .seq C12_7 C12_8
def O12_23 : List AOp := [⟨(.some 16), .none, (.plain (.loadN 4 (.t 3)))⟩, ⟨.none, .none, (.plain (.store 4 (.t 2) (.t 16)))⟩]
def C12_23 : ACode := .ops O12_23
def C12_24 : ACode := .ret
def C12_22 : ACode := .seq C12_23 C12_24
def C12_5 : ACode := .seq C12_6 C12_22
def C12_3 : ACode := .seq C12_4 C12_5
def C12_1 : ACode := .seq C12_2 C12_3
def R12 : List RA := [(.cellN 2 4)]
theorem k12 : compF Try.prog (muL []) 12 = some ⟨17, C12_1, R12⟩ := by kernel_rfl
noncomputable def X12 (r : Arr 4 Int) : Cx := ⟨Try.prog, noG, 17, muL [], R12, isD (fun x => x = AV.agg (c24 r))⟩
inductive St12 where
  | p1 (t6 : Sl Int) (t7 : Int) (t8 : Int) (t2 : Arr 4 Int) (s : Arr 4 Int)
noncomputable def G12 : St12 → Option (Arr 4 Int)
  | .p1 t6 t7 t8 t2 s =>
    (if (decide (t8 < t7)) = true then
      (ix (ls t6) t8 >>= fun v16 =>
        (F36 s v16 >>= fun r18 =>
          (G12 (.p1 t6 t7 (IntKind.wrap .i64 (t8 + 1)) t2 r18))))
    else
      (some s))
  partial_fixpoint
def M12 (x : St12) (r : Arr 4 Int) : Prop := match x with
  | .p1 t6 t7 t8 t2 s => ∀ (tm : Fr) (st : Store) (i0 : Nat) (i1 : Nat), tm 2 = .ptr i0 0 → tm 3 = .ptr i1 0 → tm 6 = slV 1 (AV.int .u8) t6 → tm 7 = AV.int .i64 t7 → tm 8 = AV.int .i64 t8 → st[i0]? = some (.cells (c24 t2)) → st[i1]? = some (.cells (c24 s)) → i0 ≠ i1 → AtL (X12 r) C12_10 [.blk 0, .seq C12_22] tm st
theorem w12 : ∀ (x : St12) (r : Arr 4 Int), G12 x = some r → M12 x r := by
  refine G12.partial_correctness M12 ?_
  intro g ih x r hF
  cases x with
  | p1 t6 t7 t8 t2 s =>
    dsimp only at hF
    intro tm st i0 i1 h2 h3 h6 h7 h8 o0 o1 n0_1
    refine atl_once ?_
    refine at_seq (a := C12_11) (b := C12_12) ?_
    refine at_ops (l := O12_11) ?_
    refine xo (e_bin (v := .bool (decide (t8 < t7))) h8 h7 rfl) ?_
    refine ato_nil ?_
    refine atn_seq ?_
    refine at_seq (a := C12_13) (b := C12_16) ?_
    refine at_cond (x := C12_14) (y := C12_15) rfl (fun c15 => ?_) (fun c15 => ?_)
    · have hF := ite_t c15 hF
      refine at_skip ?_
      refine atn_seq ?_
      refine at_seq (a := C12_17) (b := C12_21) ?_
      refine at_block (x := C12_18) ?_
      refine at_seq (a := C12_19) (b := C12_20) ?_
      refine at_ops (l := O12_19) ?_
      obtain ⟨v16, g17, hF⟩ := bind_some hF
      refine xo (e_iaddrL (rd_V h6) h8 g17) ?_
      refine xo (e_load1D (show _ = AV.dptr ((cI .u8) v16) from rfl) (DP.refl _)) ?_
      refine xo (e_mv' (v := AV.int .u8 v16) rfl) ?_
      refine ato_nil ?_
      refine atn_seq ?_
      refine at_ops (l := O12_20) ?_
      refine xo (e_loadN h3 o1 (LR.whole _ _) (c24_len _)) ?_
      refine xo (e_mv' (v := AV.int .u8 v16) rfl) ?_
      obtain ⟨r18, g19, hF⟩ := bind_some hF
      refine xo_dfun' (d36 s v16 _ g19) (dsl_cons (ds_eq rfl (ds_agg (c24_ds _))) (dsl_cons (ds_eq rfl ds_i) dsl_nil)) ?_
      refine xo_store h3 o1 (LR.whole _ _) (c24_len _) rfl rfl (c24_len _) (c24_one _) fun s20 o21 k22 => ?_
      have o23 := k22 _ _ o0 n0_1
      refine ato_nil ?_
      refine atn_blk ?_
      refine atn_seq ?_
      refine at_ops (l := O12_21) ?_
      refine xo (e_bin (v := .int .i64 (IntKind.wrap .i64 (t8 + 1))) h8 rfl rfl) ?_
      refine xo (e_mv' (v := AV.int .i64 (IntKind.wrap .i64 (t8 + 1))) rfl) ?_
      refine ato_nil ?_
      refine atn_lp ?_
      exact ih (.p1 t6 t7 (IntKind.wrap .i64 (t8 + 1)) t2 r18) _ hF _ _ _ _ h2 h3 h6 h7 rfl o23 o21 n0_1
    · have hF := ite_f c15 hF
      refine at_exit ?_
      refine atx (k' := [.seq C12_22]) rfl ?_
      refine atn_seq ?_
      refine at_seq (a := C12_23) (b := C12_24) ?_
      refine at_ops (l := O12_23) ?_
      refine xo (e_loadN h3 o1 (LR.whole _ _) (c24_len _)) ?_
      refine xo_store h2 o0 (LR.whole _ _) (c24_len _) rfl rfl (c24_len _) (c24_one _) fun s24 o25 k26 => ?_
      refine ato_nil ?_
      refine atn_seq ?_
      refine at_ret ?_
      cases hF
      exact atr (rl_cellN h2 o25 (LR.whole _ _) (c24_len _) rl_nil) (isd (ds_eq rfl (ds_agg (c24_ds _))))
noncomputable def F12 (b : Sl Int) : Option (Arr 4 Int) :=
  (G12 (.p1 b ((ls b).length : Int) 0 (Arr.rep 4 0) (Arr.rep 4 0)))
theorem d12 (b : Sl Int) (r : Arr 4 Int) (hF : F12 b = some r) : DFun Try.prog noG 12 [slV 1 (AV.int .u8) b] (AV.agg (c24 r)) := by
  unfold F12 at hF
  refine dfun_at k12 (Nat.le_of_ble_eq_true rfl) ?_
  show At (X12 r) _ _ _ _
  refine at_seq (a := C12_2) (b := C12_3) ?_
  refine at_ops (l := O12_2) ?_
  refine xo_alloc (cs := c24 (Arr.rep 4 0)) rfl fun s2 i3 o4 k5 q6 => ?_
  refine ato_nil ?_
  refine atn_seq ?_
  refine at_seq (a := C12_4) (b := C12_5) ?_
  refine at_ops (l := O12_4) ?_
  refine xo_alloc (cs := c24 (Arr.rep 4 0)) rfl fun s8 i9 o10 k11 q12 => ?_
  have n13 : i3 ≠ i9 := fun e => ne_new o4 (e.trans q12)
  have o14 := keep0 k11 o4
  refine ato_nil ?_
  refine atn_seq ?_
  refine at_seq (a := C12_6) (b := C12_22) ?_
  refine at_seq (a := C12_7) (b := C12_8) ?_
  refine at_ops (l := O12_7) ?_
  refine xo (e_mv' (v := slV 1 (AV.int .u8) b) rfl) ?_
  refine xo (e_len (rd_V rfl)) ?_
  refine xo (e_mv' (v := AV.int .i64 0) rfl) ?_
  refine ato_nil ?_
  refine atn_seq ?_
  refine at_block (x := C12_9) ?_
  refine at_loop (b := C12_10) ?_
  exact w12 (.p1 b ((ls b).length : Int) 0 (Arr.rep 4 0) (Arr.rep 4 0)) _ hF _ _ _ _ rfl rfl rfl rfl rfl o14 o10 n13
/-! ### 13: paddock/paddockref07.Of -/
def O13_2 : List AOp := [⟨(.some 2), .none, (.plain (.alloc [(.int .u64 0), (.int .u64 0), (.int .u64 0), (.int .u64 0)]))⟩]
def C13_2 : ACode := .ops O13_2
def O13_4 : List AOp := [⟨(.some 3), .none, (.plain (.alloc [(.int .u64 0), (.int .u64 0), (.int .u64 0), (.int .u64 0)]))⟩]
def C13_4 : ACode := .ops O13_4
def O13_7 : List AOp := [⟨(.some 6), .none, (.plain (.mv (.t 0)))⟩, ⟨(.some 7), .none, (.plain (.len (.t 6)))⟩, ⟨(.some 8), .none, (.plain (.mv (.c (.int .i64 0))))⟩]
def C13_7 : ACode := .ops O13_7
def O13_11 : List AOp := [⟨(.some 9), .none, (.plain (.binI .lss (.t 8) (.t 7)))⟩]
def C13_11 : ACode := .ops O13_11
def C13_14 : ACode := .skip
def C13_15 : ACode := .exit 0
def C13_13 : ACode := .cond (.t 9) C13_14 C13_15
def O13_19 : List AOp := [⟨(.some 10), .none, (.plain (.iaddrL 1 (.t 6) (.t 8)))⟩, ⟨(.some 11), .none, (.plain (.load1 (.t 10)))⟩, ⟨(.some 5), .none, (.plain (.mv (.t 11)))⟩]
def C13_19 : ACode := .ops O13_19
def O13_20 : List AOp := [⟨(.some 12), .none, (.plain (.loadN 4 (.t 3)))⟩, ⟨(.some 13), .none, (.plain (.mv (.t 5)))⟩, ⟨(.some 14), .none, (.call 35 [(.t 12), (.t 13)])⟩, ⟨.none, .none, (.plain (.store 4 (.t 3) (.t 14)))⟩]
def C13_20 : ACode := .ops O13_20
def C13_18 : ACode := .seq C13_19 C13_20
def C13_17 : ACode := .block 1 C13_18
def O13_21 : List AOp := [⟨(.some 15), .none, (.plain (.binI .add (.t 8) (.c (.int .i64 1))))⟩, ⟨(.some 8), .none, (.plain (.mv (.t 15)))⟩]
def C13_21 : ACode := .ops O13_21
def C13_16 : ACode := .seq C13_17 C13_21
def C13_12 : ACode := .seq C13_13 C13_16
def C13_10 : ACode := .seq C13_11 C13_12
def C13_9 : ACode := .loop C13_10
def C13_8 : ACode := .block 0 C13_9
def C13_6 : ACode := .seq C13_7 C13_8
def O13_23 : List AOp := [⟨(.some 16), .none, (.plain (.loadN 4 (.t 3)))⟩, ⟨.none, .none, (.plain (.store 4 (.t 2) (.t 16)))⟩]
def C13_23 : ACode := .ops O13_23
def C13_24 : ACode := .ret
def C13_22 : ACode := .seq C13_23 C13_24
def C13_5 : ACode := .seq C13_6 C13_22
def C13_3 : ACode := .seq C13_4 C13_5
def C13_1 : ACode := .seq C13_2 C13_3
def R13 : List RA := [(.cellN 2 4)]
theorem k13 : compF Try.prog (muL []) 13 = some ⟨17, C13_1, R13⟩ := by kernel_rfl
noncomputable def X13 (r : Arr 4 Int) : Cx := ⟨Try.prog, noG, 17, muL [], R13, isD (fun x => x = AV.agg (c24 r))⟩
inductive St13 where
  | p1 (t6 : Sl Int) (t7 : Int) (t8 : Int) (t2 : Arr 4 Int) (s : Arr 4 Int)
noncomputable def G13 : St13 → Option (Arr 4 Int)
  | .p1 t6 t7 t8 t2 s =>
    (if (decide (t8 < t7)) = true then
      (ix (ls t6) t8 >>= fun v16 =>
        (F35 s v16 >>= fun r18 =>
          (G13 (.p1 t6 t7 (IntKind.wrap .i64 (t8 + 1)) t2 r18))))
    else
      (some s))
  partial_fixpoint
def M13 (x : St13) (r : Arr 4 Int) : Prop := match x with
  | .p1 t6 t7 t8 t2 s => ∀ (tm : Fr) (st : Store) (i0 : Nat) (i1 : Nat), tm 2 = .ptr i0 0 → tm 3 = .ptr i1 0 → tm 6 = slV 1 (AV.int .u8) t6 → tm 7 = AV.int .i64 t7 → tm 8 = AV.int .i64 t8 → st[i0]? = some (.cells (c24 t2)) → st[i1]? = some (.cells (c24 s)) → i0 ≠ i1 → AtL (X13 r) C13_10 [.blk 0, .seq C13_22] tm st
theorem w13 : ∀ (x : St13) (r : Arr 4 Int), G13 x = some r → M13 x r := by
  refine G13.partial_correctness M13 ?_
  intro g ih x r hF
  cases x with
  | p1 t6 t7 t8 t2 s =>
    dsimp only at hF
    intro tm st i0 i1 h2 h3 h6 h7 h8 o0 o1 n0_1
    refine atl_once ?_
    refine at_seq (a := C13_11) (b := C13_12) ?_
    refine at_ops (l := O13_11) ?_
    refine xo (e_bin (v := .bool (decide (t8 < t7))) h8 h7 rfl) ?_
    refine ato_nil ?_
    refine atn_seq ?_
    refine at_seq (a := C13_13) (b := C13_16) ?_
    refine at_cond (x := C13_14) (y := C13_15) rfl (fun c15 => ?_) (fun c15 => ?_)
    · have hF := ite_t c15 hF
      refine at_skip ?_
      refine atn_seq ?_
      refine at_seq (a := C13_17) (b := C13_21) ?_
      refine at_block (x := C13_18) ?_
      refine at_seq (a := C13_19) (b := C13_20) ?_
      refine at_ops (l := O13_19) ?_
      obtain ⟨v16, g17, hF⟩ := bind_some hF
      refine xo (e_iaddrL (rd_V h6) h8 g17) ?_
      refine xo (e_load1D (show _ = AV.dptr ((cI .u8) v16) from rfl) (DP.refl _)) ?_
      refine xo (e_mv' (v := AV.int .u8 v16) rfl) ?_
      refine ato_nil ?_
      refine atn_seq ?_
      refine at_ops (l := O13_20) ?_
      refine xo (e_loadN h3 o1 (LR.whole _ _) (c24_len _)) ?_
      refine xo (e_mv' (v := AV.int .u8 v16) rfl) ?_
      obtain ⟨r18, g19, hF⟩ := bind_some hF
      refine xo_dfun' (d35 s v16 _ g19) (dsl_cons (ds_eq rfl (ds_agg (c24_ds _))) (dsl_cons (ds_eq rfl ds_i) dsl_nil)) ?_
      refine xo_store h3 o1 (LR.whole _ _) (c24_len _) rfl rfl (c24_len _) (c24_one _) fun s20 o21 k22 => ?_
      have o23 := k22 _ _ o0 n0_1
      refine ato_nil ?_
      refine atn_blk ?_
      refine atn_seq ?_
      refine at_ops (l := O13_21) ?_
      refine xo (e_bin (v := .int .i64 (IntKind.wrap .i64 (t8 + 1))) h8 rfl rfl) ?_
      refine xo (e_mv' (v := AV.int .i64 (IntKind.wrap .i64 (t8 + 1))) rfl) ?_
      refine ato_nil ?_
      refine atn_lp ?_
      exact ih (.p1 t6 t7 (IntKind.wrap .i64 (t8 + 1)) t2 r18) _ hF _ _ _ _ h2 h3 h6 h7 rfl o23 o21 n0_1
    · have hF := ite_f c15 hF
      refine at_exit ?_
      refine atx (k' := [.seq C13_22]) rfl ?_
      refine atn_seq ?_
      refine at_seq (a := C13_23) (b := C13_24) ?_
      refine at_ops (l := O13_23) ?_
      refine xo (e_loadN h3 o1 (LR.whole _ _) (c24_len _)) ?_
      refine xo_store h2 o0 (LR.whole _ _) (c24_len _) rfl rfl (c24_len _) (c24_one _) fun s24 o25 k26 => ?_
      refine ato_nil ?_
      refine atn_seq ?_
      refine at_ret ?_
      cases hF
      exact atr (rl_cellN h2 o25 (LR.whole _ _) (c24_len _) rl_nil) (isd (ds_eq rfl (ds_agg (c24_ds _))))
noncomputable def F13 (b : Sl Int) : Option (Arr 4 Int) :=
  (G13 (.p1 b ((ls b).length : Int) 0 (Arr.rep 4 0) (Arr.rep 4 0)))
theorem d13 (b : Sl Int) (r : Arr 4 Int) (hF : F13 b = some r) : DFun Try.prog noG 13 [slV 1 (AV.int .u8) b] (AV.agg (c24 r)) := by
  unfold F13 at hF
  refine dfun_at k13 (Nat.le_of_ble_eq_true rfl) ?_
  show At (X13 r) _ _ _ _
  refine at_seq (a := C13_2) (b := C13_3) ?_
  refine at_ops (l := O13_2) ?_
  refine xo_alloc (cs := c24 (Arr.rep 4 0)) rfl fun s2 i3 o4 k5 q6 => ?_
  refine ato_nil ?_
  refine atn_seq ?_
  refine at_seq (a := C13_4) (b := C13_5) ?_
  refine at_ops (l := O13_4) ?_
  refine xo_alloc (cs := c24 (Arr.rep 4 0)) rfl fun s8 i9 o10 k11 q12 => ?_
  have n13 : i3 ≠ i9 := fun e => ne_new o4 (e.trans q12)
  have o14 := keep0 k11 o4
  refine ato_nil ?_
  refine atn_seq ?_
  refine at_seq (a := C13_6) (b := C13_22) ?_
  refine at_seq (a := C13_7) (b := C13_8) ?_
  refine at_ops (l := O13_7) ?_
  refine xo (e_mv' (v := slV 1 (AV.int .u8) b) rfl) ?_
  refine xo (e_len (rd_V rfl)) ?_
  refine xo (e_mv' (v := AV.int .i64 0) rfl) ?_
  refine ato_nil ?_
  refine atn_seq ?_
  refine at_block (x := C13_9) ?_
  refine at_loop (b := C13_10) ?_
  exact w13 (.p1 b ((ls b).length : Int) 0 (Arr.rep 4 0) (Arr.rep 4 0)) _ hF _ _ _ _ rfl rfl rfl rfl rfl o14 o10 n13
/-! ### 14: paddock/paddocklaw07.same -/
def O14_2 : List AOp := [⟨(.some 4), .none, (.plain (.mv (.c (.bool false))))⟩]
def C14_2 : ACode := .ops O14_2
def O14_5 : List AOp := [⟨(.some 6), .none, (.plain (.mv (.t 0)))⟩, ⟨(.some 7), .none, (.plain (.len (.t 6)))⟩, ⟨(.some 8), .none, (.plain (.mv (.t 1)))⟩, ⟨(.some 9), .none, (.plain (.len (.t 8)))⟩, ⟨(.some 10), .none, (.plain (.binI .neq (.t 7) (.t 9)))⟩]
def C14_5 : ACode := .ops O14_5
def O14_8 : List AOp := [⟨(.some 4), .none, (.plain (.mv (.c (.bool false))))⟩]
def C14_8 : ACode := .ops O14_8
def C14_9 : ACode := .ret
def C14_7 : ACode := .seq C14_8 C14_9
def C14_10 : ACode := .skip
def C14_6 : ACode := .cond (.t 10) C14_7 C14_10
def C14_4 : ACode := .seq C14_5 C14_6
def O14_13 : List AOp := [⟨(.some 11), .none, (.plain (.mv (.t 0)))⟩, ⟨(.some 12), .none, (.plain (.len (.t 11)))⟩, ⟨(.some 13), .none, (.plain (.mv (.c (.int .i64 0))))⟩]
def C14_13 : ACode := .ops O14_13
def O14_17 : List AOp := [⟨(.some 14), .none, (.plain (.binI .lss (.t 13) (.t 12)))⟩]
def C14_17 : ACode := .ops O14_17
def C14_20 : ACode := .skip
def C14_21 : ACode := .exit 0
def C14_19 : ACode := .cond (.t 14) C14_20 C14_21
def O14_25 : List AOp := [⟨(.some 15), .none, (.plain (.mv (.t 13)))⟩, ⟨(.some 5), .none, (.plain (.mv (.t 15)))⟩]
def C14_25 : ACode := .ops O14_25
def Q14_27_1 : List AOp := ⟨(.some 24), .none, (.plain (.binI .neq (.t 19) (.t 23)))⟩ :: []
def Q14_27 : List AOp := ⟨(.some 16), .none, (.plain (.mv (.t 0)))⟩ :: ⟨(.some 17), .none, (.plain (.mv (.t 5)))⟩ :: ⟨(.some 18), .none, (.plain (.iaddrL 1 (.t 16) (.t 17)))⟩ :: ⟨(.some 19), .none, (.plain (.load1 (.t 18)))⟩ :: ⟨(.some 20), .none, (.plain (.mv (.t 1)))⟩ :: ⟨(.some 21), .none, (.plain (.mv (.t 5)))⟩ :: ⟨(.some 22), .none, (.plain (.iaddrL 1 (.t 20) (.t 21)))⟩ :: ⟨(.some 23), .none, (.plain (.load1 (.t 22)))⟩ :: Q14_27_1
def S14_27 : List AOp := []
def C14_27 : ACode := .draw [] 0 0 Q14_27 S14_27
def O14_30 : List AOp := [⟨(.some 4), .none, (.plain (.mv (.c (.bool false))))⟩]
def C14_30 : ACode := .ops O14_30
def C14_31 : ACode := .ret
def C14_29 : ACode := .seq C14_30 C14_31
def C14_32 : ACode := .skip
def C14_28 : ACode := .cond (.t 24) C14_29 C14_32
def C14_26 : ACode := .seq C14_27 C14_28
def C14_24 : ACode := .seq C14_25 C14_26
def C14_23 : ACode := .block 1 C14_24
def O14_33 : List AOp := [⟨(.some 25), .none, (.plain (.binI .add (.t 13) (.c (.int .i64 1))))⟩, ⟨(.some 13), .none, (.plain (.mv (.t 25)))⟩]
def C14_33 : ACode := .ops O14_33
def C14_22 : ACode := .seq C14_23 C14_33
def C14_18 : ACode := .seq C14_19 C14_22
def C14_16 : ACode := .seq C14_17 C14_18
def C14_15 : ACode := .loop C14_16
def C14_14 : ACode := .block 0 C14_15
def C14_12 : ACode := .seq C14_13 C14_14
def O14_35 : List AOp := [⟨(.some 4), .none, (.plain (.mv (.c (.bool true))))⟩]
def C14_35 : ACode := .ops O14_35
def C14_36 : ACode := .ret
def C14_34 : ACode := .seq C14_35 C14_36
def C14_11 : ACode := .seq C14_12 C14_34
def C14_3 : ACode := .seq C14_4 C14_11
def C14_1 : ACode := .seq C14_2 C14_3
def R14 : List RA := [(.tmp 4)]
theorem k14 : compF Try.prog (muL []) 14 = some ⟨26, C14_1, R14⟩ := by kernel_rfl
noncomputable def X14 (r : Bool) : Cx := ⟨Try.prog, noG, 26, muL [], R14, isD (fun x => x = AV.bool r)⟩
inductive St14 where
  | p1 (a : Sl Int) (b : Sl Int) (t12 : Int) (t13 : Int)
noncomputable def G14 : St14 → Option Bool
  | .p1 a b t12 t13 =>
    (if (decide (t13 < t12)) = true then
      (ix (ls a) t13 >>= fun v3 =>
        (ix (ls b) t13 >>= fun v5 =>
          (if (v3 != v5) = true then
            (some false)
          else
            (G14 (.p1 a b t12 (IntKind.wrap .i64 (t13 + 1)))))))
    else
      (some true))
  partial_fixpoint
def M14 (x : St14) (r : Bool) : Prop := match x with
  | .p1 a b t12 t13 => ∀ (tm : Fr) (st : Store), tm 0 = slV 1 (AV.int .u8) a → tm 1 = slV 1 (AV.int .u8) b → tm 12 = AV.int .i64 t12 → tm 13 = AV.int .i64 t13 → AtL (X14 r) C14_16 [.blk 0, .seq C14_34] tm st
theorem w14 : ∀ (x : St14) (r : Bool), G14 x = some r → M14 x r := by
  refine G14.partial_correctness M14 ?_
  intro g ih x r hF
  cases x with
  | p1 a b t12 t13 =>
    dsimp only at hF
    intro tm st h0 h1 h12 h13
    refine atl_once ?_
    refine at_seq (a := C14_17) (b := C14_18) ?_
    refine at_ops (l := O14_17) ?_
    refine xo (e_bin (v := .bool (decide (t13 < t12))) h13 h12 rfl) ?_
    refine ato_nil ?_
    refine atn_seq ?_
    refine at_seq (a := C14_19) (b := C14_22) ?_
    refine at_cond (x := C14_20) (y := C14_21) rfl (fun c2 => ?_) (fun c2 => ?_)
    · have hF := ite_t c2 hF
      refine at_skip ?_
      refine atn_seq ?_
      refine at_seq (a := C14_23) (b := C14_33) ?_
      refine at_block (x := C14_24) ?_
      refine at_seq (a := C14_25) (b := C14_26) ?_
      refine at_ops (l := O14_25) ?_
      refine xo (e_mv' (v := AV.int .i64 t13) h13) ?_
      refine xo (e_mv' (v := AV.int .i64 t13) rfl) ?_
      refine ato_nil ?_
      refine atn_seq ?_
      refine at_seq (a := C14_27) (b := C14_28) ?_
      refine at_draw0 (q := Q14_27) (suf := S14_27) ?_
      refine xd rfl (e_mv' (v := slV 1 (AV.int .u8) a) h0) ?_
      refine xd rfl (e_mv' (v := AV.int .i64 t13) rfl) ?_
      obtain ⟨v3, g4, hF⟩ := bind_some hF
      refine xd rfl (e_iaddrL (rd_V rfl) rfl g4) ?_
      refine xd rfl (e_load1D (show _ = AV.dptr ((cI .u8) v3) from rfl) (DP.refl _)) ?_
      refine xd rfl (e_mv' (v := slV 1 (AV.int .u8) b) h1) ?_
      refine xd rfl (e_mv' (v := AV.int .i64 t13) rfl) ?_
      obtain ⟨v5, g6, hF⟩ := bind_some hF
      refine xd rfl (e_iaddrL (rd_V rfl) rfl g6) ?_
      refine xd rfl (e_load1D (show _ = AV.dptr ((cI .u8) v5) from rfl) (DP.refl _)) ?_
      refine xd rfl (e_bin (v := .bool ((v3 != v5))) rfl rfl rfl) ?_
      refine atd_nil ?_
      refine ato_nil ?_
      refine atn_seq ?_
      refine at_cond (x := C14_29) (y := C14_32) rfl (fun c7 => ?_) (fun c7 => ?_)
      · have hF := ite_t c7 hF
        refine at_seq (a := C14_30) (b := C14_31) ?_
        refine at_ops (l := O14_30) ?_
        refine xo (e_mv' (v := AV.bool false) rfl) ?_
        refine ato_nil ?_
        refine atn_seq ?_
        refine at_ret ?_
        cases hF
        exact atr (rl_tmp rfl rl_nil) (isd (ds_eq rfl ds_b))
      · have hF := ite_f c7 hF
        refine at_skip ?_
        refine atn_blk ?_
        refine atn_seq ?_
        refine at_ops (l := O14_33) ?_
        refine xo (e_bin (v := .int .i64 (IntKind.wrap .i64 (t13 + 1))) h13 rfl rfl) ?_
        refine xo (e_mv' (v := AV.int .i64 (IntKind.wrap .i64 (t13 + 1))) rfl) ?_
        refine ato_nil ?_
        refine atn_lp ?_
        exact ih (.p1 a b t12 (IntKind.wrap .i64 (t13 + 1))) _ hF _ _ h0 h1 h12 rfl
    · have hF := ite_f c2 hF
      refine at_exit ?_
      refine atx (k' := [.seq C14_34]) rfl ?_
      refine atn_seq ?_
      refine at_seq (a := C14_35) (b := C14_36) ?_
      refine at_ops (l := O14_35) ?_
      refine xo (e_mv' (v := AV.bool true) rfl) ?_
      refine ato_nil ?_
      refine atn_seq ?_
      refine at_ret ?_
      cases hF
      exact atr (rl_tmp rfl rl_nil) (isd (ds_eq rfl ds_b))
noncomputable def F14 (a : Sl Int) (b : Sl Int) : Option Bool :=
  (if (((ls a).length : Int) != ((ls b).length : Int)) = true then
    (some false)
  else
    (G14 (.p1 a b ((ls a).length : Int) 0)))
theorem d14 (a : Sl Int) (b : Sl Int) (r : Bool) (hF : F14 a b = some r) : DFun Try.prog noG 14 [slV 1 (AV.int .u8) a, slV 1 (AV.int .u8) b] (AV.bool r) := by
  unfold F14 at hF
  refine dfun_at k14 (Nat.le_of_ble_eq_true rfl) ?_
  show At (X14 r) _ _ _ _
  refine at_seq (a := C14_2) (b := C14_3) ?_
  refine at_ops (l := O14_2) ?_
  refine xo (e_mv' (v := AV.bool false) rfl) ?_
  refine ato_nil ?_
  refine atn_seq ?_
  refine at_seq (a := C14_4) (b := C14_11) ?_
  refine at_seq (a := C14_5) (b := C14_6) ?_
  refine at_ops (l := O14_5) ?_
  refine xo (e_mv' (v := slV 1 (AV.int .u8) a) rfl) ?_
  refine xo (e_len (rd_V rfl)) ?_
  refine xo (e_mv' (v := slV 1 (AV.int .u8) b) rfl) ?_
  refine xo (e_len (rd_V rfl)) ?_
  refine xo (e_bin (v := .bool ((((ls a).length : Int) != ((ls b).length : Int)))) rfl rfl rfl) ?_
  refine ato_nil ?_
  refine atn_seq ?_
  refine at_cond (x := C14_7) (y := C14_10) rfl (fun c1 => ?_) (fun c1 => ?_)
  · have hF := ite_t c1 hF
    refine at_seq (a := C14_8) (b := C14_9) ?_
    refine at_ops (l := O14_8) ?_
    refine xo (e_mv' (v := AV.bool false) rfl) ?_
    refine ato_nil ?_
    refine atn_seq ?_
    refine at_ret ?_
    cases hF
    exact atr (rl_tmp rfl rl_nil) (isd (ds_eq rfl ds_b))
  · have hF := ite_f c1 hF
    refine at_skip ?_
    refine atn_seq ?_
    refine at_seq (a := C14_12) (b := C14_34) ?_
    refine at_seq (a := C14_13) (b := C14_14) ?_
    refine at_ops (l := O14_13) ?_
    refine xo (e_mv' (v := slV 1 (AV.int .u8) a) rfl) ?_
    refine xo (e_len (rd_V rfl)) ?_
    refine xo (e_mv' (v := AV.int .i64 0) rfl) ?_
    refine ato_nil ?_
    refine atn_seq ?_
    refine at_block (x := C14_15) ?_
    refine at_loop (b := C14_16) ?_
    exact w14 (.p1 a b ((ls a).length : Int) 0) _ hF _ _ rfl rfl rfl rfl
/-! ### 15: paddock/sets.Bytes -/
def O15_2 : List AOp := [⟨(.some 1), .none, (.plain (.box 4 (.t 0)))⟩, ⟨(.some 2), .none, (.plain (.mv (.c .nils)))⟩]
def C15_2 : ACode := .ops O15_2
def O15_4 : List AOp := [⟨(.some 3), .none, (.plain (.mv (.c .nils)))⟩]
def C15_4 : ACode := .ops O15_4
def O15_7 : List AOp := [⟨(.some 5), .none, (.plain (.mv (.c (.int .i64 0))))⟩]
def C15_7 : ACode := .ops O15_7
def O15_11 : List AOp := [⟨(.some 6), .none, (.plain (.binI .lss (.t 5) (.c (.int .i64 256))))⟩]
def C15_11 : ACode := .ops O15_11
def C15_14 : ACode := .skip
def C15_15 : ACode := .exit 0
def C15_13 : ACode := .cond (.t 6) C15_14 C15_15
def O15_19 : List AOp := [⟨(.some 7), .none, (.plain (.mv (.t 5)))⟩, ⟨(.some 4), .none, (.plain (.mv (.t 7)))⟩]
def C15_19 : ACode := .ops O15_19
def O15_21 : List AOp := [⟨(.some 8), .none, (.plain (.loadN 4 (.t 1)))⟩, ⟨(.some 9), .none, (.plain (.mv (.t 4)))⟩, ⟨(.some 10), .none, (.plain (.cvI .u8 (.t 9)))⟩, ⟨(.some 11), .none, (.call 17 [(.t 8), (.t 10)])⟩]
def C15_21 : ACode := .ops O15_21
def O15_23 : List AOp := [⟨(.some 12), .none, (.plain (.mv (.t 3)))⟩, ⟨(.some 13), .none, (.plain (.mv (.t 4)))⟩, ⟨(.some 14), .none, (.plain (.cvI .u8 (.t 13)))⟩, ⟨(.some 15), .none, (.plain (.bslice 1 1 false [(.int .u8 0)] [(0, (1, (.t 14)))] false))⟩, ⟨(.some 16), .none, (.plain (.app 1 1 (.t 12) (.t 15)))⟩, ⟨(.some 3), .none, (.plain (.mv (.t 16)))⟩]
def C15_23 : ACode := .ops O15_23
def C15_24 : ACode := .skip
def C15_22 : ACode := .cond (.t 11) C15_23 C15_24
def C15_20 : ACode := .seq C15_21 C15_22
def C15_18 : ACode := .seq C15_19 C15_20
def C15_17 : ACode := .block 1 C15_18
def O15_25 : List AOp := [⟨(.some 17), .none, (.plain (.binI .add (.t 5) (.c (.int .i64 1))))⟩, ⟨(.some 5), .none, (.plain (.mv (.t 17)))⟩]
def C15_25 : ACode := .ops O15_25
def C15_16 : ACode := .seq C15_17 C15_25
def C15_12 : ACode := .seq C15_13 C15_16
def C15_10 : ACode := .seq C15_11 C15_12
def C15_9 : ACode := .loop C15_10
def C15_8 : ACode := .block 0 C15_9
def C15_6 : ACode := .seq C15_7 C15_8
def O15_27 : List AOp := [⟨(.some 18), .none, (.plain (.mv (.t 3)))⟩, ⟨(.some 2), .none, (.plain (.mv (.t 18)))⟩]
def C15_27 : ACode := .ops O15_27
def C15_28 : ACode := .ret
def C15_26 : ACode := .seq C15_27 C15_28
def C15_5 : ACode := .seq C15_6 C15_26
def C15_3 : ACode := .seq C15_4 C15_5
def C15_1 : ACode := .seq C15_2 C15_3
def R15 : List RA := [(.tmp 2)]
theorem k15 : compF Try.prog (muL []) 15 = some ⟨19, C15_1, R15⟩ := by kernel_rfl
noncomputable def X15 (r : Sl Int) : Cx := ⟨Try.prog, noG, 19, muL [], R15, isD (fun x => x = slV 1 (AV.int .u8) r)⟩
inductive St15 where
  | p1 (out : Sl Int) (t5 : Int) (s : Arr 4 Int)
noncomputable def G15 : St15 → Option (Sl Int)
  | .p1 out t5 s =>
    (if (decide (t5 < 256)) = true then
      (F17 s (IntKind.wrap .u8 t5) >>= fun r8 =>
        (if r8 = true then
          (if ((ls out).length + (([IntKind.wrap .u8 t5] : List Int)).length) * 1 ≤ 140737488355328 then
            (G15 (.p1 (sapp out ([IntKind.wrap .u8 t5] : List Int)) (IntKind.wrap .i64 (t5 + 1)) s))
          else none)
        else
          (G15 (.p1 out (IntKind.wrap .i64 (t5 + 1)) s))))
    else
      (some out))
  partial_fixpoint
def M15 (x : St15) (r : Sl Int) : Prop := match x with
  | .p1 out t5 s => ∀ (tm : Fr) (st : Store) (i0 : Nat) (fp3 : Option Nat), tm 1 = .ptr i0 0 → OwnV 1 (AV.int .u8) out st (tm 3) fp3 → tm 5 = AV.int .i64 t5 → st[i0]? = some (.cells (c24 s)) → AtL (X15 r) C15_10 [.blk 0, .seq C15_26] tm st
theorem w15 : ∀ (x : St15) (r : Sl Int), G15 x = some r → M15 x r := by
  refine G15.partial_correctness M15 ?_
  intro g ih x r hF
  cases x with
  | p1 out t5 s =>
    dsimp only at hF
    intro tm st i0 fp3 h1 h3 h5 o0
    refine atl_once ?_
    refine at_seq (a := C15_11) (b := C15_12) ?_
    refine at_ops (l := O15_11) ?_
    refine xo (e_bin (v := .bool (decide (t5 < 256))) h5 rfl rfl) ?_
    refine ato_nil ?_
    refine atn_seq ?_
    refine at_seq (a := C15_13) (b := C15_16) ?_
    refine at_cond (x := C15_14) (y := C15_15) rfl (fun c7 => ?_) (fun c7 => ?_)
    · have hF := ite_t c7 hF
      refine at_skip ?_
      refine atn_seq ?_
      refine at_seq (a := C15_17) (b := C15_25) ?_
      refine at_block (x := C15_18) ?_
      refine at_seq (a := C15_19) (b := C15_20) ?_
      refine at_ops (l := O15_19) ?_
      refine xo (e_mv' (v := AV.int .i64 t5) h5) ?_
      refine xo (e_mv' (v := AV.int .i64 t5) rfl) ?_
      refine ato_nil ?_
      refine atn_seq ?_
      refine at_seq (a := C15_21) (b := C15_22) ?_
      refine at_ops (l := O15_21) ?_
      refine xo (e_loadN h1 o0 (LR.whole _ _) (c24_len _)) ?_
      refine xo (e_mv' (v := AV.int .i64 t5) rfl) ?_
      refine xo (e_cvI rfl) ?_
      obtain ⟨r8, g9, hF⟩ := bind_some hF
      refine xo_dfun' (d17 s (IntKind.wrap .u8 t5) _ g9) (dsl_cons (ds_eq rfl (ds_agg (c24_ds _))) (dsl_cons (ds_eq rfl ds_i) dsl_nil)) ?_
      refine ato_nil ?_
      refine atn_seq ?_
      refine at_cond (x := C15_23) (y := C15_24) rfl (fun c10 => ?_) (fun c10 => ?_)
      · have hF := ite_t c10 hF
        refine at_ops (l := O15_23) ?_
        refine xo (e_mv' (v := (tm 3)) rfl) ?_
        refine xo (e_mv' (v := AV.int .i64 t5) rfl) ?_
        refine xo (e_cvI rfl) ?_
        refine xo_bslice (f := AV.int .u8) (m := ([IntKind.wrap .u8 t5] : List Int)) (pk_cons (cs := (cI .u8) (IntKind.wrap .u8 t5)) rfl rfl ((cI_len .u8) _) (by decide) pk_nil) rfl rfl rfl fun s11 i12 o13 k14 q15 => ?_
        have o16 := keep0 k14 o0
        have w17 := own_keep0 k14 h3
        obtain ⟨g18, hF⟩ := grd_some hF
        refine xo_app (o := out) (ys := ([IntKind.wrap .u8 t5] : List Int)) w17 (ae_rd (rd_T rfl)) g18 fun v19 s20 f21 w22 k23 j24 => ?_
        have o25 := k23 _ _ o16 (own_ncc o16 w17)
        refine xo (e_mv' (v := v19) rfl) ?_
        refine ato_nil ?_
        refine atn_blk ?_
        refine atn_seq ?_
        refine at_ops (l := O15_25) ?_
        refine xo (e_bin (v := .int .i64 (IntKind.wrap .i64 (t5 + 1))) h5 rfl rfl) ?_
        refine xo (e_mv' (v := AV.int .i64 (IntKind.wrap .i64 (t5 + 1))) rfl) ?_
        refine ato_nil ?_
        refine atn_lp ?_
        exact ih (.p1 (sapp out ([IntKind.wrap .u8 t5] : List Int)) (IntKind.wrap .i64 (t5 + 1)) s) _ hF _ _ _ _ h1 w22 rfl o25
      · have hF := ite_f c10 hF
        refine at_skip ?_
        refine atn_blk ?_
        refine atn_seq ?_
        refine at_ops (l := O15_25) ?_
        refine xo (e_bin (v := .int .i64 (IntKind.wrap .i64 (t5 + 1))) h5 rfl rfl) ?_
        refine xo (e_mv' (v := AV.int .i64 (IntKind.wrap .i64 (t5 + 1))) rfl) ?_
        refine ato_nil ?_
        refine atn_lp ?_
        exact ih (.p1 out (IntKind.wrap .i64 (t5 + 1)) s) _ hF _ _ _ _ h1 h3 rfl o0
    · have hF := ite_f c7 hF
      refine at_exit ?_
      refine atx (k' := [.seq C15_26]) rfl ?_
      refine atn_seq ?_
      refine at_seq (a := C15_27) (b := C15_28) ?_
      refine at_ops (l := O15_27) ?_
      refine xo (e_mv' (v := (tm 3)) rfl) ?_
      refine xo (e_mv' (v := (tm 3)) rfl) ?_
      refine ato_nil ?_
      refine atn_seq ?_
      refine at_ret ?_
      cases hF
      exact atr (rl_tmp rfl rl_nil) (isd (ds_rd (fun _ => ds_i) (rd_O h3)))
noncomputable def F15 (s : Arr 4 Int) : Option (Sl Int) :=
  (G15 (.p1 none 0 s))
theorem d15 (s : Arr 4 Int) (r : Sl Int) (hF : F15 s = some r) : DFun Try.prog noG 15 [AV.agg (c24 s)] (slV 1 (AV.int .u8) r) := by
  unfold F15 at hF
  refine dfun_at k15 (Nat.le_of_ble_eq_true rfl) ?_
  show At (X15 r) _ _ _ _
  refine at_seq (a := C15_2) (b := C15_3) ?_
  refine at_ops (l := O15_2) ?_
  refine xo_box (cs := c24 s) rfl rfl (c24_len _) fun s2 i3 o4 k5 q6 => ?_
  refine xo (e_mv' (show _ = slV 1 (AV.int .u8) none from rfl)) ?_
  refine ato_nil ?_
  refine atn_seq ?_
  refine at_seq (a := C15_4) (b := C15_5) ?_
  refine at_ops (l := O15_4) ?_
  refine xo (e_mv' rfl) ?_
  refine ato_nil ?_
  refine atn_seq ?_
  refine at_seq (a := C15_6) (b := C15_26) ?_
  refine at_seq (a := C15_7) (b := C15_8) ?_
  refine at_ops (l := O15_7) ?_
  refine xo (e_mv' (v := AV.int .i64 0) rfl) ?_
  refine ato_nil ?_
  refine atn_seq ?_
  refine at_block (x := C15_9) ?_
  refine at_loop (b := C15_10) ?_
  exact w15 (.p1 none 0 s) _ hF _ _ _ _ rfl (own_nil rfl) rfl o4
end Go.Proofs.Ytfjdegohjnejkaa
