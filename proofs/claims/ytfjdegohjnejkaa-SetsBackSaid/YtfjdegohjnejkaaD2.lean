/-
  Functions of the program's as plain functions.
-/
import Derived.Test.YtfjdegohjnejkaaD1
set_option linter.unusedVariables false
set_option maxRecDepth 4000
set_option maxHeartbeats 4000000
namespace Go.Proofs.Ytfjdegohjnejkaa
open Go AW
attribute [local irreducible] At AtL AtO AtN AtX AtR AtD XS XLoop DFun XCall
/-! ### 28: paddock/paddockref07.Or -/
def O28_2 : List AOp := [⟨(.some 2), .none, (.plain (.box 4 (.t 0)))⟩, ⟨(.some 3), .none, (.plain (.box 4 (.t 1)))⟩, ⟨(.some 4), .none, (.plain (.alloc [(.int .u64 0), (.int .u64 0), (.int .u64 0), (.int .u64 0)]))⟩]
def C28_2 : ACode := .ops O28_2
def O28_5 : List AOp := [⟨(.some 7), .none, (.plain (.loadN 4 (.t 3)))⟩, ⟨(.some 8), .none, (.call 16 [(.t 7)])⟩, ⟨(.some 9), .none, (.plain (.len (.t 8)))⟩, ⟨(.some 10), .none, (.plain (.mv (.c (.int .i64 0))))⟩]
def C28_5 : ACode := .ops O28_5
def O28_9 : List AOp := [⟨(.some 11), .none, (.plain (.binI .lss (.t 10) (.t 9)))⟩]
def C28_9 : ACode := .ops O28_9
def C28_12 : ACode := .skip
def C28_13 : ACode := .exit 0
def C28_11 : ACode := .cond (.t 11) C28_12 C28_13
def O28_17 : List AOp := [⟨(.some 12), .none, (.plain (.iaddrL 1 (.t 8) (.t 10)))⟩, ⟨(.some 13), .none, (.plain (.load1 (.t 12)))⟩, ⟨(.some 6), .none, (.plain (.mv (.t 13)))⟩]
def C28_17 : ACode := .ops O28_17
def O28_18 : List AOp := [⟨(.some 14), .none, (.plain (.loadN 4 (.t 2)))⟩, ⟨(.some 15), .none, (.plain (.mv (.t 6)))⟩, ⟨(.some 16), .none, (.call 35 [(.t 14), (.t 15)])⟩, ⟨.none, .none, (.plain (.store 4 (.t 2) (.t 16)))⟩]
def C28_18 : ACode := .ops O28_18
def C28_16 : ACode := .seq C28_17 C28_18
def C28_15 : ACode := .block 1 C28_16
def O28_19 : List AOp := [⟨(.some 17), .none, (.plain (.binI .add (.t 10) (.c (.int .i64 1))))⟩, ⟨(.some 10), .none, (.plain (.mv (.t 17)))⟩]
def C28_19 : ACode := .ops O28_19
def C28_14 : ACode := .seq C28_15 C28_19
def C28_10 : ACode := .seq C28_11 C28_14
def C28_8 : ACode := .seq C28_9 C28_10
def C28_7 : ACode := .loop C28_8
def C28_6 : ACode := .block 0 C28_7
def C28_4 : ACode := .seq C28_5 C28_6
def O28_21 : List AOp := [⟨(.some 18), .none, (.plain (.loadN 4 (.t 2)))⟩, ⟨.none, .none, (.plain (.store 4 (.t 4) (.t 18)))⟩]
def C28_21 : ACode := .ops O28_21
def C28_22 : ACode := .ret
def C28_20 : ACode := .seq C28_21 C28_22
def C28_3 : ACode := .seq C28_4 C28_20
def C28_1 : ACode := .seq C28_2 C28_3
def R28 : List RA := [(.cellN 4 4)]
theorem k28 : compF Try.prog (muL []) 28 = some ⟨19, C28_1, R28⟩ := by kernel_rfl
noncomputable def X28 (r : Arr 4 Int) : Cx := ⟨Try.prog, noG, 19, muL [], R28, isD (fun x => x = AV.agg (c24 r))⟩
inductive St28 where
  | p1 (t8 : Sl Int) (t9 : Int) (t10 : Int) (a : Arr 4 Int) (t4 : Arr 4 Int)
noncomputable def G28 : St28 → Option (Arr 4 Int)
  | .p1 t8 t9 t10 a t4 =>
    (if (decide (t10 < t9)) = true then
      (ix (ls t8) t10 >>= fun v28 =>
        (F35 a v28 >>= fun r30 =>
          (G28 (.p1 t8 t9 (IntKind.wrap .i64 (t10 + 1)) r30 t4))))
    else
      (some a))
  partial_fixpoint
def M28 (x : St28) (r : Arr 4 Int) : Prop := match x with
  | .p1 t8 t9 t10 a t4 => ∀ (tm : Fr) (st : Store) (i0 : Nat) (i1 : Nat), tm 2 = .ptr i0 0 → tm 4 = .ptr i1 0 → tm 8 = slV 1 (AV.int .u8) t8 → tm 9 = AV.int .i64 t9 → tm 10 = AV.int .i64 t10 → st[i0]? = some (.cells (c24 a)) → st[i1]? = some (.cells (c24 t4)) → i0 ≠ i1 → AtL (X28 r) C28_8 [.blk 0, .seq C28_20] tm st
theorem w28 : ∀ (x : St28) (r : Arr 4 Int), G28 x = some r → M28 x r := by
  refine G28.partial_correctness M28 ?_
  intro g ih x r hF
  cases x with
  | p1 t8 t9 t10 a t4 =>
    dsimp only at hF
    intro tm st i0 i1 h2 h4 h8 h9 h10 o0 o1 n0_1
    refine atl_once ?_
    refine at_seq (a := C28_9) (b := C28_10) ?_
    refine at_ops (l := O28_9) ?_
    refine xo (e_bin (v := .bool (decide (t10 < t9))) h10 h9 rfl) ?_
    refine ato_nil ?_
    refine atn_seq ?_
    refine at_seq (a := C28_11) (b := C28_14) ?_
    refine at_cond (x := C28_12) (y := C28_13) rfl (fun c27 => ?_) (fun c27 => ?_)
    · have hF := ite_t c27 hF
      refine at_skip ?_
      refine atn_seq ?_
      refine at_seq (a := C28_15) (b := C28_19) ?_
      refine at_block (x := C28_16) ?_
      refine at_seq (a := C28_17) (b := C28_18) ?_
      refine at_ops (l := O28_17) ?_
      obtain ⟨v28, g29, hF⟩ := bind_some hF
      refine xo (e_iaddrL (rd_V h8) h10 g29) ?_
      refine xo (e_load1D (show _ = AV.dptr ((cI .u8) v28) from rfl) (DP.refl _)) ?_
      refine xo (e_mv' (v := AV.int .u8 v28) rfl) ?_
      refine ato_nil ?_
      refine atn_seq ?_
      refine at_ops (l := O28_18) ?_
      refine xo (e_loadN h2 o0 (LR.whole _ _) (c24_len _)) ?_
      refine xo (e_mv' (v := AV.int .u8 v28) rfl) ?_
      obtain ⟨r30, g31, hF⟩ := bind_some hF
      refine xo_dfun' (d35 a v28 _ g31) (dsl_cons (ds_eq rfl (ds_agg (c24_ds _))) (dsl_cons (ds_eq rfl ds_i) dsl_nil)) ?_
      refine xo_store h2 o0 (LR.whole _ _) (c24_len _) rfl rfl (c24_len _) (c24_one _) fun s32 o33 k34 => ?_
      have o35 := k34 _ _ o1 (Ne.symm n0_1)
      refine ato_nil ?_
      refine atn_blk ?_
      refine atn_seq ?_
      refine at_ops (l := O28_19) ?_
      refine xo (e_bin (v := .int .i64 (IntKind.wrap .i64 (t10 + 1))) h10 rfl rfl) ?_
      refine xo (e_mv' (v := AV.int .i64 (IntKind.wrap .i64 (t10 + 1))) rfl) ?_
      refine ato_nil ?_
      refine atn_lp ?_
      exact ih (.p1 t8 t9 (IntKind.wrap .i64 (t10 + 1)) r30 t4) _ hF _ _ _ _ h2 h4 h8 h9 rfl o33 o35 n0_1
    · have hF := ite_f c27 hF
      refine at_exit ?_
      refine atx (k' := [.seq C28_20]) rfl ?_
      refine atn_seq ?_
      refine at_seq (a := C28_21) (b := C28_22) ?_
      refine at_ops (l := O28_21) ?_
      refine xo (e_loadN h2 o0 (LR.whole _ _) (c24_len _)) ?_
      refine xo_store h4 o1 (LR.whole _ _) (c24_len _) rfl rfl (c24_len _) (c24_one _) fun s36 o37 k38 => ?_
      refine ato_nil ?_
      refine atn_seq ?_
      refine at_ret ?_
      cases hF
      exact atr (rl_cellN h4 o37 (LR.whole _ _) (c24_len _) rl_nil) (isd (ds_eq rfl (ds_agg (c24_ds _))))
noncomputable def F28 (a : Arr 4 Int) (b : Arr 4 Int) : Option (Arr 4 Int) :=
  (F16 b >>= fun r25 =>
    (G28 (.p1 r25 ((ls r25).length : Int) 0 a (Arr.rep 4 0))))
theorem d28 (a : Arr 4 Int) (b : Arr 4 Int) (r : Arr 4 Int) (hF : F28 a b = some r) : DFun Try.prog noG 28 [AV.agg (c24 a), AV.agg (c24 b)] (AV.agg (c24 r)) := by
  unfold F28 at hF
  refine dfun_at k28 (Nat.le_of_ble_eq_true rfl) ?_
  show At (X28 r) _ _ _ _
  refine at_seq (a := C28_2) (b := C28_3) ?_
  refine at_ops (l := O28_2) ?_
  refine xo_box (cs := c24 a) rfl rfl (c24_len _) fun s2 i3 o4 k5 q6 => ?_
  refine xo_box (cs := c24 b) rfl rfl (c24_len _) fun s8 i9 o10 k11 q12 => ?_
  have n13 : i3 ≠ i9 := fun e => ne_new o4 (e.trans q12)
  have o14 := keep0 k11 o4
  refine xo_alloc (cs := c24 (Arr.rep 4 0)) rfl fun s16 i17 o18 k19 q20 => ?_
  have n21 : i3 ≠ i17 := fun e => ne_new o14 (e.trans q20)
  have n22 : i9 ≠ i17 := fun e => ne_new o10 (e.trans q20)
  have o23 := keep0 k19 o14
  have o24 := keep0 k19 o10
  refine ato_nil ?_
  refine atn_seq ?_
  refine at_seq (a := C28_4) (b := C28_20) ?_
  refine at_seq (a := C28_5) (b := C28_6) ?_
  refine at_ops (l := O28_5) ?_
  refine xo (e_loadN rfl o24 (LR.whole _ _) (c24_len _)) ?_
  obtain ⟨r25, g26, hF⟩ := bind_some hF
  refine xo_dfun' (d16 b _ g26) (dsl_cons (ds_eq rfl (ds_agg (c24_ds _))) dsl_nil) ?_
  refine xo (e_len (rd_V rfl)) ?_
  refine xo (e_mv' (v := AV.int .i64 0) rfl) ?_
  refine ato_nil ?_
  refine atn_seq ?_
  refine at_block (x := C28_7) ?_
  refine at_loop (b := C28_8) ?_
  exact w28 (.p1 r25 ((ls r25).length : Int) 0 a (Arr.rep 4 0)) _ hF _ _ _ _ rfl rfl rfl rfl rfl o23 o18 n21
/-! ### 29: paddock/sets.Not -/
def O29_2 : List AOp := [⟨(.some 1), .none, (.plain (.box 4 (.t 0)))⟩, ⟨(.some 2), .none, (.plain (.alloc [(.int .u64 0), (.int .u64 0), (.int .u64 0), (.int .u64 0)]))⟩]
def C29_2 : ACode := .ops O29_2
def O29_5 : List AOp := [⟨(.some 4), .none, (.plain (.mv (.c (.int .i64 0))))⟩]
def C29_5 : ACode := .ops O29_5
def O29_9 : List AOp := [⟨(.some 5), .none, (.plain (.binI .lss (.t 4) (.c (.int .i64 4))))⟩]
def C29_9 : ACode := .ops O29_9
def C29_12 : ACode := .skip
def C29_13 : ACode := .exit 0
def C29_11 : ACode := .cond (.t 5) C29_12 C29_13
def O29_17 : List AOp := [⟨(.some 6), .none, (.plain (.mv (.t 4)))⟩, ⟨(.some 3), .none, (.plain (.mv (.t 6)))⟩]
def C29_17 : ACode := .ops O29_17
def O29_18 : List AOp := [⟨(.some 7), .none, (.plain (.mv (.t 3)))⟩, ⟨(.some 8), .none, (.plain (.mv (.t 3)))⟩, ⟨(.some 9), .none, (.plain (.iaddrA 4 1 (.t 1) (.t 8)))⟩, ⟨(.some 10), .none, (.plain (.load1 (.t 9)))⟩, ⟨(.some 11), .none, (.plain (.un .xor (.t 10)))⟩, ⟨(.some 12), .none, (.plain (.iaddrA 4 1 (.t 1) (.t 7)))⟩, ⟨.none, .none, (.plain (.store 1 (.t 12) (.t 11)))⟩]
def C29_18 : ACode := .ops O29_18
def C29_16 : ACode := .seq C29_17 C29_18
def C29_15 : ACode := .block 1 C29_16
def O29_19 : List AOp := [⟨(.some 13), .none, (.plain (.binI .add (.t 4) (.c (.int .i64 1))))⟩, ⟨(.some 4), .none, (.plain (.mv (.t 13)))⟩]
def C29_19 : ACode := .ops O29_19
def C29_14 : ACode := .seq C29_15 C29_19
def C29_10 : ACode := .seq C29_11 C29_14
def C29_8 : ACode := .seq C29_9 C29_10
def C29_7 : ACode := .loop C29_8
def C29_6 : ACode := .block 0 C29_7
def C29_4 : ACode := .seq C29_5 C29_6
def O29_21 : List AOp := [⟨(.some 14), .none, (.plain (.loadN 4 (.t 1)))⟩, ⟨.none, .none, (.plain (.store 4 (.t 2) (.t 14)))⟩]
def C29_21 : ACode := .ops O29_21
def C29_22 : ACode := .ret
def C29_20 : ACode := .seq C29_21 C29_22
def C29_3 : ACode := .seq C29_4 C29_20
def C29_1 : ACode := .seq C29_2 C29_3
def R29 : List RA := [(.cellN 2 4)]
theorem k29 : compF Try.prog (muL []) 29 = some ⟨15, C29_1, R29⟩ := by kernel_rfl
noncomputable def X29 (r : Arr 4 Int) : Cx := ⟨Try.prog, noG, 15, muL [], R29, isD (fun x => x = AV.agg (c24 r))⟩
inductive St29 where
  | p1 (t4 : Int) (s : Arr 4 Int) (t2 : Arr 4 Int)
noncomputable def G29 : St29 → Option (Arr 4 Int)
  | .p1 t4 s t2 =>
    (if (decide (t4 < 4)) = true then
      (if 0 ≤ t4 ∧ t4 < (4 : Int) then
        (ix s.l t4 >>= fun v17 =>
          (if 0 ≤ t4 ∧ t4 < (4 : Int) then
            (G29 (.p1 (IntKind.wrap .i64 (t4 + 1)) (aset s t4 (notI .u64 v17)) t2))
          else none))
      else none)
    else
      (some s))
  partial_fixpoint
def M29 (x : St29) (r : Arr 4 Int) : Prop := match x with
  | .p1 t4 s t2 => ∀ (tm : Fr) (st : Store) (i0 : Nat) (i1 : Nat), tm 1 = .ptr i0 0 → tm 2 = .ptr i1 0 → tm 4 = AV.int .i64 t4 → st[i0]? = some (.cells (c24 s)) → st[i1]? = some (.cells (c24 t2)) → i0 ≠ i1 → AtL (X29 r) C29_8 [.blk 0, .seq C29_20] tm st
theorem w29 : ∀ (x : St29) (r : Arr 4 Int), G29 x = some r → M29 x r := by
  refine G29.partial_correctness M29 ?_
  intro g ih x r hF
  cases x with
  | p1 t4 s t2 =>
    dsimp only at hF
    intro tm st i0 i1 h1 h2 h4 o0 o1 n0_1
    refine atl_once ?_
    refine at_seq (a := C29_9) (b := C29_10) ?_
    refine at_ops (l := O29_9) ?_
    refine xo (e_bin (v := .bool (decide (t4 < 4))) h4 rfl rfl) ?_
    refine ato_nil ?_
    refine atn_seq ?_
    refine at_seq (a := C29_11) (b := C29_14) ?_
    refine at_cond (x := C29_12) (y := C29_13) rfl (fun c15 => ?_) (fun c15 => ?_)
    · have hF := ite_t c15 hF
      refine at_skip ?_
      refine atn_seq ?_
      refine at_seq (a := C29_15) (b := C29_19) ?_
      refine at_block (x := C29_16) ?_
      refine at_seq (a := C29_17) (b := C29_18) ?_
      refine at_ops (l := O29_17) ?_
      refine xo (e_mv' (v := AV.int .i64 t4) h4) ?_
      refine xo (e_mv' (v := AV.int .i64 t4) rfl) ?_
      refine ato_nil ?_
      refine atn_seq ?_
      refine at_ops (l := O29_18) ?_
      refine xo (e_mv' (v := AV.int .i64 t4) rfl) ?_
      refine xo (e_mv' (v := AV.int .i64 t4) rfl) ?_
      obtain ⟨g16, hF⟩ := grd_some hF
      refine xo (e_iaddrA h1 o0 rfl g16) ?_
      obtain ⟨v17, g18, hF⟩ := bind_some hF
      refine xo (e_load1 rfl o0 (LR.comp (LR.whole _ _) (lr_get (cI_len .u64) g18))) ?_
      refine xo (e_xorU rfl) ?_
      obtain ⟨g19, hF⟩ := grd_some hF
      refine xo (e_iaddrA h1 o0 rfl g19) ?_
      obtain ⟨y20, g21⟩ := ix_in s g19 rfl
      refine xo_store rfl o0 (LR.comp (LR.whole _ _) (lr_set (cI_len .u64) g21 (notI .u64 v17))) ((cI_len .u64) _) rfl rfl ((cI_len .u64) _) ((cI_one .u64) _) fun s22 o23 k24 => ?_
      have o25 := k24 _ _ o1 (Ne.symm n0_1)
      refine ato_nil ?_
      refine atn_blk ?_
      refine atn_seq ?_
      refine at_ops (l := O29_19) ?_
      refine xo (e_bin (v := .int .i64 (IntKind.wrap .i64 (t4 + 1))) h4 rfl rfl) ?_
      refine xo (e_mv' (v := AV.int .i64 (IntKind.wrap .i64 (t4 + 1))) rfl) ?_
      refine ato_nil ?_
      refine atn_lp ?_
      exact ih (.p1 (IntKind.wrap .i64 (t4 + 1)) (aset s t4 (notI .u64 v17)) t2) _ hF _ _ _ _ h1 h2 rfl o23 o25 n0_1
    · have hF := ite_f c15 hF
      refine at_exit ?_
      refine atx (k' := [.seq C29_20]) rfl ?_
      refine atn_seq ?_
      refine at_seq (a := C29_21) (b := C29_22) ?_
      refine at_ops (l := O29_21) ?_
      refine xo (e_loadN h1 o0 (LR.whole _ _) (c24_len _)) ?_
      refine xo_store h2 o1 (LR.whole _ _) (c24_len _) rfl rfl (c24_len _) (c24_one _) fun s26 o27 k28 => ?_
      refine ato_nil ?_
      refine atn_seq ?_
      refine at_ret ?_
      cases hF
      exact atr (rl_cellN h2 o27 (LR.whole _ _) (c24_len _) rl_nil) (isd (ds_eq rfl (ds_agg (c24_ds _))))
noncomputable def F29 (s : Arr 4 Int) : Option (Arr 4 Int) :=
  (G29 (.p1 0 s (Arr.rep 4 0)))
theorem d29 (s : Arr 4 Int) (r : Arr 4 Int) (hF : F29 s = some r) : DFun Try.prog noG 29 [AV.agg (c24 s)] (AV.agg (c24 r)) := by
  unfold F29 at hF
  refine dfun_at k29 (Nat.le_of_ble_eq_true rfl) ?_
  show At (X29 r) _ _ _ _
  refine at_seq (a := C29_2) (b := C29_3) ?_
  refine at_ops (l := O29_2) ?_
  refine xo_box (cs := c24 s) rfl rfl (c24_len _) fun s2 i3 o4 k5 q6 => ?_
  refine xo_alloc (cs := c24 (Arr.rep 4 0)) rfl fun s8 i9 o10 k11 q12 => ?_
  have n13 : i3 ≠ i9 := fun e => ne_new o4 (e.trans q12)
  have o14 := keep0 k11 o4
  refine ato_nil ?_
  refine atn_seq ?_
  refine at_seq (a := C29_4) (b := C29_20) ?_
  refine at_seq (a := C29_5) (b := C29_6) ?_
  refine at_ops (l := O29_5) ?_
  refine xo (e_mv' (v := AV.int .i64 0) rfl) ?_
  refine ato_nil ?_
  refine atn_seq ?_
  refine at_block (x := C29_7) ?_
  refine at_loop (b := C29_8) ?_
  exact w29 (.p1 0 s (Arr.rep 4 0)) _ hF _ _ _ _ rfl rfl rfl o14 o10 n13
/-! ### 30: paddock/paddockref07.Not -/
def O30_2 : List AOp := [⟨(.some 1), .none, (.plain (.box 4 (.t 0)))⟩, ⟨(.some 2), .none, (.plain (.alloc [(.int .u64 0), (.int .u64 0), (.int .u64 0), (.int .u64 0)]))⟩]
def C30_2 : ACode := .ops O30_2
def O30_4 : List AOp := [⟨(.some 3), .none, (.plain (.alloc [(.int .u64 0), (.int .u64 0), (.int .u64 0), (.int .u64 0)]))⟩]
def C30_4 : ACode := .ops O30_4
def O30_7 : List AOp := [⟨(.some 4), .none, (.plain (.mv (.c (.int .i64 0))))⟩]
def C30_7 : ACode := .ops O30_7
def O30_12 : List AOp := [⟨(.some 5), .none, (.plain (.mv (.t 4)))⟩, ⟨(.some 6), .none, (.plain (.binI .lss (.t 5) (.c (.int .i64 256))))⟩]
def C30_12 : ACode := .ops O30_12
def C30_14 : ACode := .skip
def C30_15 : ACode := .exit 0
def C30_13 : ACode := .cond (.t 6) C30_14 C30_15
def C30_11 : ACode := .seq C30_12 C30_13
def O30_19 : List AOp := [⟨(.some 9), .none, (.plain (.loadN 4 (.t 1)))⟩, ⟨(.some 10), .none, (.plain (.mv (.t 4)))⟩, ⟨(.some 11), .none, (.plain (.cvI .u8 (.t 10)))⟩, ⟨(.some 12), .none, (.call 18 [(.t 9), (.t 11)])⟩, ⟨(.some 13), .none, (.plain (.un .not (.t 12)))⟩]
def C30_19 : ACode := .ops O30_19
def O30_21 : List AOp := [⟨(.some 14), .none, (.plain (.loadN 4 (.t 3)))⟩, ⟨(.some 15), .none, (.plain (.mv (.t 4)))⟩, ⟨(.some 16), .none, (.plain (.cvI .u8 (.t 15)))⟩, ⟨(.some 17), .none, (.call 35 [(.t 14), (.t 16)])⟩, ⟨.none, .none, (.plain (.store 4 (.t 3) (.t 17)))⟩]
def C30_21 : ACode := .ops O30_21
def C30_22 : ACode := .skip
def C30_20 : ACode := .cond (.t 13) C30_21 C30_22
def C30_18 : ACode := .seq C30_19 C30_20
def C30_17 : ACode := .block 1 C30_18
def O30_23 : List AOp := [⟨(.some 7), .none, (.plain (.mv (.t 4)))⟩, ⟨(.some 8), .none, (.plain (.binI .add (.t 7) (.c (.int .i64 1))))⟩, ⟨(.some 4), .none, (.plain (.mv (.t 8)))⟩]
def C30_23 : ACode := .ops O30_23
def C30_16 : ACode := .seq C30_17 C30_23
def C30_10 : ACode := .seq C30_11 C30_16
def C30_9 : ACode := .loop C30_10
def C30_8 : ACode := .block 0 C30_9
def C30_6 : ACode := .seq C30_7 C30_8
def O30_25 : List AOp := [⟨(.some 18), .none, (.plain (.loadN 4 (.t 3)))⟩, ⟨.none, .none, (.plain (.store 4 (.t 2) (.t 18)))⟩]
def C30_25 : ACode := .ops O30_25
def C30_26 : ACode := .ret
def C30_24 : ACode := .seq C30_25 C30_26
def C30_5 : ACode := .seq C30_6 C30_24
def C30_3 : ACode := .seq C30_4 C30_5
def C30_1 : ACode := .seq C30_2 C30_3
def R30 : List RA := [(.cellN 2 4)]
theorem k30 : compF Try.prog (muL []) 30 = some ⟨19, C30_1, R30⟩ := by kernel_rfl
noncomputable def X30 (r : Arr 4 Int) : Cx := ⟨Try.prog, noG, 19, muL [], R30, isD (fun x => x = AV.agg (c24 r))⟩
inductive St30 where
  | p1 (c : Int) (a : Arr 4 Int) (t2 : Arr 4 Int) (s : Arr 4 Int)
noncomputable def G30 : St30 → Option (Arr 4 Int)
  | .p1 c a t2 s =>
    (if (decide (c < 256)) = true then
      (F18 a (IntKind.wrap .u8 c) >>= fun r26 =>
        (if (!r26) = true then
          (F35 s (IntKind.wrap .u8 c) >>= fun r29 =>
            (G30 (.p1 (IntKind.wrap .i64 (c + 1)) a t2 r29)))
        else
          (G30 (.p1 (IntKind.wrap .i64 (c + 1)) a t2 s))))
    else
      (some s))
  partial_fixpoint
def M30 (x : St30) (r : Arr 4 Int) : Prop := match x with
  | .p1 c a t2 s => ∀ (tm : Fr) (st : Store) (i0 : Nat) (i1 : Nat) (i2 : Nat), tm 1 = .ptr i0 0 → tm 2 = .ptr i1 0 → tm 3 = .ptr i2 0 → tm 4 = AV.int .i64 c → st[i0]? = some (.cells (c24 a)) → st[i1]? = some (.cells (c24 t2)) → st[i2]? = some (.cells (c24 s)) → i0 ≠ i1 → i0 ≠ i2 → i1 ≠ i2 → AtL (X30 r) C30_10 [.blk 0, .seq C30_24] tm st
theorem w30 : ∀ (x : St30) (r : Arr 4 Int), G30 x = some r → M30 x r := by
  refine G30.partial_correctness M30 ?_
  intro g ih x r hF
  cases x with
  | p1 c a t2 s =>
    dsimp only at hF
    intro tm st i0 i1 i2 h1 h2 h3 h4 o0 o1 o2 n0_1 n0_2 n1_2
    refine atl_once ?_
    refine at_seq (a := C30_11) (b := C30_16) ?_
    refine at_seq (a := C30_12) (b := C30_13) ?_
    refine at_ops (l := O30_12) ?_
    refine xo (e_mv' (v := AV.int .i64 c) h4) ?_
    refine xo (e_bin (v := .bool (decide (c < 256))) rfl rfl rfl) ?_
    refine ato_nil ?_
    refine atn_seq ?_
    refine at_cond (x := C30_14) (y := C30_15) rfl (fun c25 => ?_) (fun c25 => ?_)
    · have hF := ite_t c25 hF
      refine at_skip ?_
      refine atn_seq ?_
      refine at_seq (a := C30_17) (b := C30_23) ?_
      refine at_block (x := C30_18) ?_
      refine at_seq (a := C30_19) (b := C30_20) ?_
      refine at_ops (l := O30_19) ?_
      refine xo (e_loadN h1 o0 (LR.whole _ _) (c24_len _)) ?_
      refine xo (e_mv' (v := AV.int .i64 c) h4) ?_
      refine xo (e_cvI rfl) ?_
      obtain ⟨r26, g27, hF⟩ := bind_some hF
      refine xo_dfun' (d18 a (IntKind.wrap .u8 c) _ g27) (dsl_cons (ds_eq rfl (ds_agg (c24_ds _))) (dsl_cons (ds_eq rfl ds_i) dsl_nil)) ?_
      refine xo (e_not rfl) ?_
      refine ato_nil ?_
      refine atn_seq ?_
      refine at_cond (x := C30_21) (y := C30_22) rfl (fun c28 => ?_) (fun c28 => ?_)
      · have hF := ite_t c28 hF
        refine at_ops (l := O30_21) ?_
        refine xo (e_loadN h3 o2 (LR.whole _ _) (c24_len _)) ?_
        refine xo (e_mv' (v := AV.int .i64 c) h4) ?_
        refine xo (e_cvI rfl) ?_
        obtain ⟨r29, g30, hF⟩ := bind_some hF
        refine xo_dfun' (d35 s (IntKind.wrap .u8 c) _ g30) (dsl_cons (ds_eq rfl (ds_agg (c24_ds _))) (dsl_cons (ds_eq rfl ds_i) dsl_nil)) ?_
        refine xo_store h3 o2 (LR.whole _ _) (c24_len _) rfl rfl (c24_len _) (c24_one _) fun s31 o32 k33 => ?_
        have o34 := k33 _ _ o0 n0_2
        have o35 := k33 _ _ o1 n1_2
        refine ato_nil ?_
        refine atn_blk ?_
        refine atn_seq ?_
        refine at_ops (l := O30_23) ?_
        refine xo (e_mv' (v := AV.int .i64 c) h4) ?_
        refine xo (e_bin (v := .int .i64 (IntKind.wrap .i64 (c + 1))) rfl rfl rfl) ?_
        refine xo (e_mv' (v := AV.int .i64 (IntKind.wrap .i64 (c + 1))) rfl) ?_
        refine ato_nil ?_
        refine atn_lp ?_
        exact ih (.p1 (IntKind.wrap .i64 (c + 1)) a t2 r29) _ hF _ _ _ _ _ h1 h2 h3 rfl o34 o35 o32 n0_1 n0_2 n1_2
      · have hF := ite_f c28 hF
        refine at_skip ?_
        refine atn_blk ?_
        refine atn_seq ?_
        refine at_ops (l := O30_23) ?_
        refine xo (e_mv' (v := AV.int .i64 c) h4) ?_
        refine xo (e_bin (v := .int .i64 (IntKind.wrap .i64 (c + 1))) rfl rfl rfl) ?_
        refine xo (e_mv' (v := AV.int .i64 (IntKind.wrap .i64 (c + 1))) rfl) ?_
        refine ato_nil ?_
        refine atn_lp ?_
        exact ih (.p1 (IntKind.wrap .i64 (c + 1)) a t2 s) _ hF _ _ _ _ _ h1 h2 h3 rfl o0 o1 o2 n0_1 n0_2 n1_2
    · have hF := ite_f c25 hF
      refine at_exit ?_
      refine atx (k' := [.seq C30_24]) rfl ?_
      refine atn_seq ?_
      refine at_seq (a := C30_25) (b := C30_26) ?_
      refine at_ops (l := O30_25) ?_
      refine xo (e_loadN h3 o2 (LR.whole _ _) (c24_len _)) ?_
      refine xo_store h2 o1 (LR.whole _ _) (c24_len _) rfl rfl (c24_len _) (c24_one _) fun s36 o37 k38 => ?_
      refine ato_nil ?_
      refine atn_seq ?_
      refine at_ret ?_
      cases hF
      exact atr (rl_cellN h2 o37 (LR.whole _ _) (c24_len _) rl_nil) (isd (ds_eq rfl (ds_agg (c24_ds _))))
noncomputable def F30 (a : Arr 4 Int) : Option (Arr 4 Int) :=
  (G30 (.p1 0 a (Arr.rep 4 0) (Arr.rep 4 0)))
theorem d30 (a : Arr 4 Int) (r : Arr 4 Int) (hF : F30 a = some r) : DFun Try.prog noG 30 [AV.agg (c24 a)] (AV.agg (c24 r)) := by
  unfold F30 at hF
  refine dfun_at k30 (Nat.le_of_ble_eq_true rfl) ?_
  show At (X30 r) _ _ _ _
  refine at_seq (a := C30_2) (b := C30_3) ?_
  refine at_ops (l := O30_2) ?_
  refine xo_box (cs := c24 a) rfl rfl (c24_len _) fun s2 i3 o4 k5 q6 => ?_
  refine xo_alloc (cs := c24 (Arr.rep 4 0)) rfl fun s8 i9 o10 k11 q12 => ?_
  have n13 : i3 ≠ i9 := fun e => ne_new o4 (e.trans q12)
  have o14 := keep0 k11 o4
  refine ato_nil ?_
  refine atn_seq ?_
  refine at_seq (a := C30_4) (b := C30_5) ?_
  refine at_ops (l := O30_4) ?_
  refine xo_alloc (cs := c24 (Arr.rep 4 0)) rfl fun s16 i17 o18 k19 q20 => ?_
  have n21 : i3 ≠ i17 := fun e => ne_new o14 (e.trans q20)
  have n22 : i9 ≠ i17 := fun e => ne_new o10 (e.trans q20)
  have o23 := keep0 k19 o14
  have o24 := keep0 k19 o10
  refine ato_nil ?_
  refine atn_seq ?_
  refine at_seq (a := C30_6) (b := C30_24) ?_
  refine at_seq (a := C30_7) (b := C30_8) ?_
  refine at_ops (l := O30_7) ?_
  refine xo (e_mv' (v := AV.int .i64 0) rfl) ?_
  refine ato_nil ?_
  refine atn_seq ?_
  refine at_block (x := C30_9) ?_
  refine at_loop (b := C30_10) ?_
  exact w30 (.p1 0 a (Arr.rep 4 0) (Arr.rep 4 0)) _ hF _ _ _ _ _ rfl rfl rfl rfl o23 o24 o18 n13 n21 n22
/-! ### 31: paddock/sets.Fold -/
def O31_2 : List AOp := [⟨(.some 1), .none, (.plain (.box 4 (.t 0)))⟩, ⟨(.some 2), .none, (.plain (.alloc [(.int .u64 0), (.int .u64 0), (.int .u64 0), (.int .u64 0)]))⟩]
def C31_2 : ACode := .ops O31_2
def O31_4 : List AOp := [⟨(.some 6), .none, (.plain (.loadN 4 (.t 1)))⟩, ⟨(.some 3), .none, (.plain (.alloc [(.int .u64 0), (.int .u64 0), (.int .u64 0), (.int .u64 0)]))⟩, ⟨.none, .none, (.plain (.store 4 (.t 3) (.t 6)))⟩]
def C31_4 : ACode := .ops O31_4
def O31_7 : List AOp := [⟨(.some 4), .none, (.plain (.mv (.c (.int .u8 97))))⟩]
def C31_7 : ACode := .ops O31_7
def O31_12 : List AOp := [⟨(.some 7), .none, (.plain (.mv (.t 4)))⟩, ⟨(.some 8), .none, (.plain (.binI .leq (.t 7) (.c (.int .u8 122))))⟩]
def C31_12 : ACode := .ops O31_12
def C31_14 : ACode := .skip
def C31_15 : ACode := .exit 0
def C31_13 : ACode := .cond (.t 8) C31_14 C31_15
def C31_11 : ACode := .seq C31_12 C31_13
def O31_19 : List AOp := [⟨(.some 11), .none, (.plain (.mv (.t 4)))⟩, ⟨(.some 12), .none, (.plain (.binI .sub (.t 11) (.c (.int .u8 32))))⟩, ⟨(.some 5), .none, (.plain (.mv (.t 12)))⟩]
def C31_19 : ACode := .ops O31_19
def O31_21 : List AOp := [⟨(.some 13), .none, (.plain (.loadN 4 (.t 1)))⟩, ⟨(.some 14), .none, (.plain (.mv (.t 4)))⟩, ⟨(.some 15), .none, (.call 17 [(.t 13), (.t 14)])⟩, ⟨(.some 16), .none, (.plain (.mv (.t 15)))⟩, ⟨(.some 17), (.some (16, false)), (.plain (.loadN 4 (.t 1)))⟩, ⟨(.some 18), (.some (16, false)), (.plain (.mv (.t 5)))⟩, ⟨(.some 19), (.some (16, false)), (.call 17 [(.t 17), (.t 18)])⟩, ⟨(.some 20), .none, (.plain (.pick (.t 16) (.c (.bool true)) (.t 19)))⟩]
def C31_21 : ACode := .ops O31_21
def O31_23 : List AOp := [⟨(.some 21), .none, (.plain (.loadN 4 (.t 3)))⟩, ⟨(.some 22), .none, (.plain (.mv (.t 4)))⟩, ⟨(.some 23), .none, (.call 36 [(.t 21), (.t 22)])⟩, ⟨(.some 24), .none, (.plain (.mv (.t 5)))⟩, ⟨(.some 25), .none, (.call 36 [(.t 23), (.t 24)])⟩, ⟨.none, .none, (.plain (.store 4 (.t 3) (.t 25)))⟩]
def C31_23 : ACode := .ops O31_23
def C31_24 : ACode := .skip
def C31_22 : ACode := .cond (.t 20) C31_23 C31_24
def C31_20 : ACode := .seq C31_21 C31_22
def C31_18 : ACode := .seq C31_19 C31_20
def C31_17 : ACode := .block 1 C31_18
def O31_25 : List AOp := [⟨(.some 9), .none, (.plain (.mv (.t 4)))⟩, ⟨(.some 10), .none, (.plain (.binI .add (.t 9) (.c (.int .u8 1))))⟩, ⟨(.some 4), .none, (.plain (.mv (.t 10)))⟩]
def C31_25 : ACode := .ops O31_25
def C31_16 : ACode := .seq C31_17 C31_25
def C31_10 : ACode := .seq C31_11 C31_16
def C31_9 : ACode := .loop C31_10
def C31_8 : ACode := .block 0 C31_9
def C31_6 : ACode := .seq C31_7 C31_8
def O31_27 : List AOp := [⟨(.some 26), .none, (.plain (.loadN 4 (.t 3)))⟩, ⟨.none, .none, (.plain (.store 4 (.t 2) (.t 26)))⟩]
def C31_27 : ACode := .ops O31_27
def C31_28 : ACode := .ret
def C31_26 : ACode := .seq C31_27 C31_28
def C31_5 : ACode := .seq C31_6 C31_26
def C31_3 : ACode := .seq C31_4 C31_5
def C31_1 : ACode := .seq C31_2 C31_3
def R31 : List RA := [(.cellN 2 4)]
theorem k31 : compF Try.prog (muL []) 31 = some ⟨27, C31_1, R31⟩ := by kernel_rfl
noncomputable def X31 (r : Arr 4 Int) : Cx := ⟨Try.prog, noG, 27, muL [], R31, isD (fun x => x = AV.agg (c24 r))⟩
inductive St31 where
  | p1 (c : Int) (s : Arr 4 Int) (t2 : Arr 4 Int) (out : Arr 4 Int)
  | p2 (c : Int) (upper : Int) (s : Arr 4 Int) (t2 : Arr 4 Int) (out : Arr 4 Int)
noncomputable def G31 : St31 → Option (Arr 4 Int)
  | .p1 c s t2 out =>
    (if (decide (c ≤ 122)) = true then
      (F17 s c >>= fun r31 =>
        (if r31 = true then
          (G31 (.p2 c (IntKind.wrap .u8 (c - 32)) s t2 out))
        else
          (F17 s (IntKind.wrap .u8 (c - 32)) >>= fun r34 =>
            (if r34 = true then
              (G31 (.p2 c (IntKind.wrap .u8 (c - 32)) s t2 out))
            else
              (G31 (.p1 (IntKind.wrap .u8 (c + 1)) s t2 out))))))
    else
      (some out))
  | .p2 c upper s t2 out =>
    (F36 out c >>= fun r40 =>
      (F36 r40 upper >>= fun r42 =>
        (G31 (.p1 (IntKind.wrap .u8 (c + 1)) s t2 r42))))
  partial_fixpoint
def M31 (x : St31) (r : Arr 4 Int) : Prop := match x with
  | .p1 c s t2 out => ∀ (tm : Fr) (st : Store) (i0 : Nat) (i1 : Nat) (i2 : Nat), tm 1 = .ptr i0 0 → tm 2 = .ptr i1 0 → tm 3 = .ptr i2 0 → tm 4 = AV.int .u8 c → st[i0]? = some (.cells (c24 s)) → st[i1]? = some (.cells (c24 t2)) → st[i2]? = some (.cells (c24 out)) → i0 ≠ i1 → i0 ≠ i2 → i1 ≠ i2 → AtL (X31 r) C31_10 [.blk 0, .seq C31_26] tm st
  | .p2 c upper s t2 out => ∀ (tm : Fr) (st : Store) (i0 : Nat) (i1 : Nat) (i2 : Nat), tm 1 = .ptr i0 0 → tm 2 = .ptr i1 0 → tm 3 = .ptr i2 0 → tm 4 = AV.int .u8 c → tm 5 = AV.int .u8 upper → st[i0]? = some (.cells (c24 s)) → st[i1]? = some (.cells (c24 t2)) → st[i2]? = some (.cells (c24 out)) → i0 ≠ i1 → i0 ≠ i2 → i1 ≠ i2 → At (X31 r) C31_23 [.blk 1, .seq C31_25, .lp C31_10, .blk 0, .seq C31_26] tm st
theorem w31 : ∀ (x : St31) (r : Arr 4 Int), G31 x = some r → M31 x r := by
  refine G31.partial_correctness M31 ?_
  intro g ih x r hF
  cases x with
  | p1 c s t2 out =>
    dsimp only at hF
    intro tm st i0 i1 i2 h1 h2 h3 h4 o0 o1 o2 n0_1 n0_2 n1_2
    refine atl_once ?_
    refine at_seq (a := C31_11) (b := C31_16) ?_
    refine at_seq (a := C31_12) (b := C31_13) ?_
    refine at_ops (l := O31_12) ?_
    refine xo (e_mv' (v := AV.int .u8 c) h4) ?_
    refine xo (e_bin (v := .bool (decide (c ≤ 122))) rfl rfl rfl) ?_
    refine ato_nil ?_
    refine atn_seq ?_
    refine at_cond (x := C31_14) (y := C31_15) rfl (fun c30 => ?_) (fun c30 => ?_)
    · have hF := ite_t c30 hF
      refine at_skip ?_
      refine atn_seq ?_
      refine at_seq (a := C31_17) (b := C31_25) ?_
      refine at_block (x := C31_18) ?_
      refine at_seq (a := C31_19) (b := C31_20) ?_
      refine at_ops (l := O31_19) ?_
      refine xo (e_mv' (v := AV.int .u8 c) h4) ?_
      refine xo (e_bin (v := .int .u8 (IntKind.wrap .u8 (c - 32))) rfl rfl rfl) ?_
      refine xo (e_mv' (v := AV.int .u8 (IntKind.wrap .u8 (c - 32))) rfl) ?_
      refine ato_nil ?_
      refine atn_seq ?_
      refine at_seq (a := C31_21) (b := C31_22) ?_
      refine at_ops (l := O31_21) ?_
      refine xo (e_loadN h1 o0 (LR.whole _ _) (c24_len _)) ?_
      refine xo (e_mv' (v := AV.int .u8 c) h4) ?_
      obtain ⟨r31, g32, hF⟩ := bind_some hF
      refine xo_dfun' (d17 s c _ g32) (dsl_cons (ds_eq rfl (ds_agg (c24_ds _))) (dsl_cons (ds_eq rfl ds_i) dsl_nil)) ?_
      refine xo (e_mv' (v := AV.bool r31) rfl) ?_
      refine bsplit (b := r31) (fun c33 => ?_) (fun c33 => ?_)
      · have hF := ite_t c33 hF
        refine xo_off rfl c33 ?_
        refine xo_off rfl c33 ?_
        refine xo_off rfl c33 ?_
        refine xo (e_pick_t (v := AV.bool true) rfl c33 rfl) ?_
        refine ato_nil ?_
        refine atn_seq ?_
        refine at_cond_t (x := C31_23) (y := C31_24) rfl rfl ?_
        exact ih (.p2 c (IntKind.wrap .u8 (c - 32)) s t2 out) _ hF _ _ _ _ _ h1 h2 h3 h4 rfl o0 o1 o2 n0_1 n0_2 n1_2
      · have hF := ite_f c33 hF
        refine xo_on rfl c33 ?_
        refine xo (e_loadN h1 o0 (LR.whole _ _) (c24_len _)) ?_
        refine xo_on rfl c33 ?_
        refine xo (e_mv' (v := AV.int .u8 (IntKind.wrap .u8 (c - 32))) rfl) ?_
        obtain ⟨r34, g35, hF⟩ := bind_some hF
        refine xo_on rfl c33 ?_
        refine xo_dfun' (d17 s (IntKind.wrap .u8 (c - 32)) _ g35) (dsl_cons (ds_eq rfl (ds_agg (c24_ds _))) (dsl_cons (ds_eq rfl ds_i) dsl_nil)) ?_
        refine xo (e_pick_f (v := AV.bool r34) rfl c33 rfl) ?_
        refine ato_nil ?_
        refine atn_seq ?_
        refine at_cond (x := C31_23) (y := C31_24) rfl (fun c36 => ?_) (fun c36 => ?_)
        · have hF := ite_t c36 hF
          exact ih (.p2 c (IntKind.wrap .u8 (c - 32)) s t2 out) _ hF _ _ _ _ _ h1 h2 h3 h4 rfl o0 o1 o2 n0_1 n0_2 n1_2
        · have hF := ite_f c36 hF
          refine at_skip ?_
          refine atn_blk ?_
          refine atn_seq ?_
          refine at_ops (l := O31_25) ?_
          refine xo (e_mv' (v := AV.int .u8 c) h4) ?_
          refine xo (e_bin (v := .int .u8 (IntKind.wrap .u8 (c + 1))) rfl rfl rfl) ?_
          refine xo (e_mv' (v := AV.int .u8 (IntKind.wrap .u8 (c + 1))) rfl) ?_
          refine ato_nil ?_
          refine atn_lp ?_
          exact ih (.p1 (IntKind.wrap .u8 (c + 1)) s t2 out) _ hF _ _ _ _ _ h1 h2 h3 rfl o0 o1 o2 n0_1 n0_2 n1_2
    · have hF := ite_f c30 hF
      refine at_exit ?_
      refine atx (k' := [.seq C31_26]) rfl ?_
      refine atn_seq ?_
      refine at_seq (a := C31_27) (b := C31_28) ?_
      refine at_ops (l := O31_27) ?_
      refine xo (e_loadN h3 o2 (LR.whole _ _) (c24_len _)) ?_
      refine xo_store h2 o1 (LR.whole _ _) (c24_len _) rfl rfl (c24_len _) (c24_one _) fun s37 o38 k39 => ?_
      refine ato_nil ?_
      refine atn_seq ?_
      refine at_ret ?_
      cases hF
      exact atr (rl_cellN h2 o38 (LR.whole _ _) (c24_len _) rl_nil) (isd (ds_eq rfl (ds_agg (c24_ds _))))
  | p2 c upper s t2 out =>
    dsimp only at hF
    intro tm st i0 i1 i2 h1 h2 h3 h4 h5 o0 o1 o2 n0_1 n0_2 n1_2
    refine at_ops (l := O31_23) ?_
    refine xo (e_loadN h3 o2 (LR.whole _ _) (c24_len _)) ?_
    refine xo (e_mv' (v := AV.int .u8 c) h4) ?_
    obtain ⟨r40, g41, hF⟩ := bind_some hF
    refine xo_dfun' (d36 out c _ g41) (dsl_cons (ds_eq rfl (ds_agg (c24_ds _))) (dsl_cons (ds_eq rfl ds_i) dsl_nil)) ?_
    refine xo (e_mv' (v := AV.int .u8 upper) h5) ?_
    obtain ⟨r42, g43, hF⟩ := bind_some hF
    refine xo_dfun' (d36 r40 upper _ g43) (dsl_cons (ds_eq rfl (ds_agg (c24_ds _))) (dsl_cons (ds_eq rfl ds_i) dsl_nil)) ?_
    refine xo_store h3 o2 (LR.whole _ _) (c24_len _) rfl rfl (c24_len _) (c24_one _) fun s44 o45 k46 => ?_
    have o47 := k46 _ _ o0 n0_2
    have o48 := k46 _ _ o1 n1_2
    refine ato_nil ?_
    refine atn_blk ?_
    refine atn_seq ?_
    refine at_ops (l := O31_25) ?_
    refine xo (e_mv' (v := AV.int .u8 c) h4) ?_
    refine xo (e_bin (v := .int .u8 (IntKind.wrap .u8 (c + 1))) rfl rfl rfl) ?_
    refine xo (e_mv' (v := AV.int .u8 (IntKind.wrap .u8 (c + 1))) rfl) ?_
    refine ato_nil ?_
    refine atn_lp ?_
    exact ih (.p1 (IntKind.wrap .u8 (c + 1)) s t2 r42) _ hF _ _ _ _ _ h1 h2 h3 rfl o47 o48 o45 n0_1 n0_2 n1_2
noncomputable def F31 (s : Arr 4 Int) : Option (Arr 4 Int) :=
  (G31 (.p1 97 s (Arr.rep 4 0) s))
theorem d31 (s : Arr 4 Int) (r : Arr 4 Int) (hF : F31 s = some r) : DFun Try.prog noG 31 [AV.agg (c24 s)] (AV.agg (c24 r)) := by
  unfold F31 at hF
  refine dfun_at k31 (Nat.le_of_ble_eq_true rfl) ?_
  show At (X31 r) _ _ _ _
  refine at_seq (a := C31_2) (b := C31_3) ?_
  refine at_ops (l := O31_2) ?_
  refine xo_box (cs := c24 s) rfl rfl (c24_len _) fun s2 i3 o4 k5 q6 => ?_
  refine xo_alloc (cs := c24 (Arr.rep 4 0)) rfl fun s8 i9 o10 k11 q12 => ?_
  have n13 : i3 ≠ i9 := fun e => ne_new o4 (e.trans q12)
  have o14 := keep0 k11 o4
  refine ato_nil ?_
  refine atn_seq ?_
  refine at_seq (a := C31_4) (b := C31_5) ?_
  refine at_ops (l := O31_4) ?_
  refine xo (e_loadN rfl o14 (LR.whole _ _) (c24_len _)) ?_
  refine xo_alloc (cs := c24 (Arr.rep 4 0)) rfl fun s16 i17 o18 k19 q20 => ?_
  have n21 : i3 ≠ i17 := fun e => ne_new o14 (e.trans q20)
  have n22 : i9 ≠ i17 := fun e => ne_new o10 (e.trans q20)
  have o23 := keep0 k19 o14
  have o24 := keep0 k19 o10
  refine xo_store rfl o18 (LR.whole _ _) (c24_len _) rfl rfl (c24_len _) (c24_one _) fun s25 o26 k27 => ?_
  have o28 := k27 _ _ o23 n21
  have o29 := k27 _ _ o24 n22
  refine ato_nil ?_
  refine atn_seq ?_
  refine at_seq (a := C31_6) (b := C31_26) ?_
  refine at_seq (a := C31_7) (b := C31_8) ?_
  refine at_ops (l := O31_7) ?_
  refine xo (e_mv' (v := AV.int .u8 97) rfl) ?_
  refine ato_nil ?_
  refine atn_seq ?_
  refine at_block (x := C31_9) ?_
  refine at_loop (b := C31_10) ?_
  exact w31 (.p1 97 s (Arr.rep 4 0) s) _ hF _ _ _ _ _ rfl rfl rfl rfl o28 o29 o26 n13 n21 n22
/-! ### 42: paddock/paddockref07.Other -/
def O42_2 : List AOp := [⟨(.some 2), .none, (.plain (.mv (.c (.int .u8 0))))⟩]
def C42_2 : ACode := .ops O42_2
def O42_6 : List AOp := [⟨(.some 4), .none, (.plain (.mv (.t 0)))⟩, ⟨(.some 5), .none, (.plain (.binI .geq (.t 4) (.c (.int .u8 97))))⟩, ⟨(.some 6), .none, (.plain (.mv (.t 5)))⟩, ⟨(.some 7), (.some (6, true)), (.plain (.mv (.t 0)))⟩, ⟨(.some 8), (.some (6, true)), (.plain (.binI .leq (.t 7) (.c (.int .u8 122))))⟩, ⟨(.some 9), .none, (.plain (.pick (.t 6) (.t 8) (.c (.bool false))))⟩, ⟨(.some 3), .none, (.plain (.mv (.t 9)))⟩]
def C42_6 : ACode := .ops O42_6
def O42_9 : List AOp := [⟨(.some 10), .none, (.plain (.mv (.t 0)))⟩, ⟨(.some 11), .none, (.plain (.binI .sub (.t 10) (.c (.int .u8 32))))⟩, ⟨(.some 2), .none, (.plain (.mv (.t 11)))⟩]
def C42_9 : ACode := .ops O42_9
def C42_10 : ACode := .ret
def C42_8 : ACode := .seq C42_9 C42_10
def O42_12 : List AOp := [⟨(.some 13), .none, (.plain (.mv (.t 0)))⟩, ⟨(.some 14), .none, (.plain (.binI .geq (.t 13) (.c (.int .u8 65))))⟩, ⟨(.some 15), .none, (.plain (.mv (.t 14)))⟩, ⟨(.some 16), (.some (15, true)), (.plain (.mv (.t 0)))⟩, ⟨(.some 17), (.some (15, true)), (.plain (.binI .leq (.t 16) (.c (.int .u8 90))))⟩, ⟨(.some 18), .none, (.plain (.pick (.t 15) (.t 17) (.c (.bool false))))⟩, ⟨(.some 12), .none, (.plain (.mv (.t 18)))⟩]
def C42_12 : ACode := .ops O42_12
def O42_15 : List AOp := [⟨(.some 19), .none, (.plain (.mv (.t 0)))⟩, ⟨(.some 20), .none, (.plain (.binI .add (.t 19) (.c (.int .u8 32))))⟩, ⟨(.some 2), .none, (.plain (.mv (.t 20)))⟩]
def C42_15 : ACode := .ops O42_15
def C42_16 : ACode := .ret
def C42_14 : ACode := .seq C42_15 C42_16
def C42_17 : ACode := .skip
def C42_13 : ACode := .cond (.t 12) C42_14 C42_17
def C42_11 : ACode := .seq C42_12 C42_13
def C42_7 : ACode := .cond (.t 3) C42_8 C42_11
def C42_5 : ACode := .seq C42_6 C42_7
def C42_4 : ACode := .block 0 C42_5
def O42_19 : List AOp := [⟨(.some 21), .none, (.plain (.mv (.t 0)))⟩, ⟨(.some 2), .none, (.plain (.mv (.t 21)))⟩]
def C42_19 : ACode := .ops O42_19
def C42_20 : ACode := .ret
def C42_18 : ACode := .seq C42_19 C42_20
def C42_3 : ACode := .seq C42_4 C42_18
def C42_1 : ACode := .seq C42_2 C42_3
def R42 : List RA := [(.tmp 2)]
theorem k42 : compF Try.prog (muL []) 42 = some ⟨22, C42_1, R42⟩ := by kernel_rfl
noncomputable def X42 (r : Int) : Cx := ⟨Try.prog, noG, 22, muL [], R42, isD (fun x => x = AV.int .u8 r)⟩
inductive St42 where
  | p1 (c : Int)
noncomputable def G42 : St42 → Option Int
  | .p1 c =>
    (if (decide (c ≥ 65)) = true then
      (if (decide (c ≤ 90)) = true then
        (some (IntKind.wrap .u8 (c + 32)))
      else
        (some c))
    else
      (some c))
def M42 (x : St42) (r : Int) : Prop := match x with
  | .p1 c => ∀ (tm : Fr) (st : Store), tm 0 = AV.int .u8 c → At (X42 r) C42_11 [.blk 0, .seq C42_18] tm st
theorem w42 : ∀ (x : St42) (r : Int), G42 x = some r → M42 x r := by
  intro x r hF
  cases x with
  | p1 c =>
    dsimp only [G42] at hF
    intro tm st h0
    refine at_seq (a := C42_12) (b := C42_13) ?_
    refine at_ops (l := O42_12) ?_
    refine xo (e_mv' (v := AV.int .u8 c) h0) ?_
    refine xo (e_bin (v := .bool (decide (c ≥ 65))) rfl rfl rfl) ?_
    refine xo (e_mv' (v := AV.bool (decide (c ≥ 65))) rfl) ?_
    refine bsplit (b := decide (c ≥ 65)) (fun c3 => ?_) (fun c3 => ?_)
    · have hF := ite_t c3 hF
      refine xo_on rfl c3 ?_
      refine xo (e_mv' (v := AV.int .u8 c) h0) ?_
      refine xo_on rfl c3 ?_
      refine xo (e_bin (v := .bool (decide (c ≤ 90))) rfl rfl rfl) ?_
      refine xo (e_pick_t (v := AV.bool (decide (c ≤ 90))) rfl c3 rfl) ?_
      refine xo (e_mv' (v := AV.bool (decide (c ≤ 90))) rfl) ?_
      refine ato_nil ?_
      refine atn_seq ?_
      refine at_cond (x := C42_14) (y := C42_17) rfl (fun c4 => ?_) (fun c4 => ?_)
      · have hF := ite_t c4 hF
        refine at_seq (a := C42_15) (b := C42_16) ?_
        refine at_ops (l := O42_15) ?_
        refine xo (e_mv' (v := AV.int .u8 c) h0) ?_
        refine xo (e_bin (v := .int .u8 (IntKind.wrap .u8 (c + 32))) rfl rfl rfl) ?_
        refine xo (e_mv' (v := AV.int .u8 (IntKind.wrap .u8 (c + 32))) rfl) ?_
        refine ato_nil ?_
        refine atn_seq ?_
        refine at_ret ?_
        cases hF
        exact atr (rl_tmp rfl rl_nil) (isd (ds_eq rfl ds_i))
      · have hF := ite_f c4 hF
        refine at_skip ?_
        refine atn_blk ?_
        refine atn_seq ?_
        refine at_seq (a := C42_19) (b := C42_20) ?_
        refine at_ops (l := O42_19) ?_
        refine xo (e_mv' (v := AV.int .u8 c) h0) ?_
        refine xo (e_mv' (v := AV.int .u8 c) rfl) ?_
        refine ato_nil ?_
        refine atn_seq ?_
        refine at_ret ?_
        cases hF
        exact atr (rl_tmp rfl rl_nil) (isd (ds_eq rfl ds_i))
    · have hF := ite_f c3 hF
      refine xo_off rfl c3 ?_
      refine xo_off rfl c3 ?_
      refine xo (e_pick_f (v := AV.bool false) rfl c3 rfl) ?_
      refine xo (e_mv' (v := AV.bool false) rfl) ?_
      refine ato_nil ?_
      refine atn_seq ?_
      refine at_cond_f (x := C42_14) (y := C42_17) rfl rfl ?_
      refine at_skip ?_
      refine atn_blk ?_
      refine atn_seq ?_
      refine at_seq (a := C42_19) (b := C42_20) ?_
      refine at_ops (l := O42_19) ?_
      refine xo (e_mv' (v := AV.int .u8 c) h0) ?_
      refine xo (e_mv' (v := AV.int .u8 c) rfl) ?_
      refine ato_nil ?_
      refine atn_seq ?_
      refine at_ret ?_
      cases hF
      exact atr (rl_tmp rfl rl_nil) (isd (ds_eq rfl ds_i))
noncomputable def F42 (c : Int) : Option Int :=
  (if (decide (c ≥ 97)) = true then
    (if (decide (c ≤ 122)) = true then
      (some (IntKind.wrap .u8 (c - 32)))
    else
      (G42 (.p1 c)))
  else
    (G42 (.p1 c)))
theorem d42 (c : Int) (r : Int) (hF : F42 c = some r) : DFun Try.prog noG 42 [AV.int .u8 c] (AV.int .u8 r) := by
  unfold F42 at hF
  refine dfun_at k42 (Nat.le_of_ble_eq_true rfl) ?_
  show At (X42 r) _ _ _ _
  refine at_seq (a := C42_2) (b := C42_3) ?_
  refine at_ops (l := O42_2) ?_
  refine xo (e_mv' (v := AV.int .u8 0) rfl) ?_
  refine ato_nil ?_
  refine atn_seq ?_
  refine at_seq (a := C42_4) (b := C42_18) ?_
  refine at_block (x := C42_5) ?_
  refine at_seq (a := C42_6) (b := C42_7) ?_
  refine at_ops (l := O42_6) ?_
  refine xo (e_mv' (v := AV.int .u8 c) rfl) ?_
  refine xo (e_bin (v := .bool (decide (c ≥ 97))) rfl rfl rfl) ?_
  refine xo (e_mv' (v := AV.bool (decide (c ≥ 97))) rfl) ?_
  refine bsplit (b := decide (c ≥ 97)) (fun c1 => ?_) (fun c1 => ?_)
  · have hF := ite_t c1 hF
    refine xo_on rfl c1 ?_
    refine xo (e_mv' (v := AV.int .u8 c) rfl) ?_
    refine xo_on rfl c1 ?_
    refine xo (e_bin (v := .bool (decide (c ≤ 122))) rfl rfl rfl) ?_
    refine xo (e_pick_t (v := AV.bool (decide (c ≤ 122))) rfl c1 rfl) ?_
    refine xo (e_mv' (v := AV.bool (decide (c ≤ 122))) rfl) ?_
    refine ato_nil ?_
    refine atn_seq ?_
    refine at_cond (x := C42_8) (y := C42_11) rfl (fun c2 => ?_) (fun c2 => ?_)
    · have hF := ite_t c2 hF
      refine at_seq (a := C42_9) (b := C42_10) ?_
      refine at_ops (l := O42_9) ?_
      refine xo (e_mv' (v := AV.int .u8 c) rfl) ?_
      refine xo (e_bin (v := .int .u8 (IntKind.wrap .u8 (c - 32))) rfl rfl rfl) ?_
      refine xo (e_mv' (v := AV.int .u8 (IntKind.wrap .u8 (c - 32))) rfl) ?_
      refine ato_nil ?_
      refine atn_seq ?_
      refine at_ret ?_
      cases hF
      exact atr (rl_tmp rfl rl_nil) (isd (ds_eq rfl ds_i))
    · have hF := ite_f c2 hF
      exact w42 (.p1 c) _ hF _ _ rfl
  · have hF := ite_f c1 hF
    refine xo_off rfl c1 ?_
    refine xo_off rfl c1 ?_
    refine xo (e_pick_f (v := AV.bool false) rfl c1 rfl) ?_
    refine xo (e_mv' (v := AV.bool false) rfl) ?_
    refine ato_nil ?_
    refine atn_seq ?_
    refine at_cond_f (x := C42_8) (y := C42_11) rfl rfl ?_
    exact w42 (.p1 c) _ hF _ _ rfl
/-! ### 32: paddock/paddockref07.Fold -/
def O32_2 : List AOp := [⟨(.some 1), .none, (.plain (.box 4 (.t 0)))⟩, ⟨(.some 2), .none, (.plain (.alloc [(.int .u64 0), (.int .u64 0), (.int .u64 0), (.int .u64 0)]))⟩]
def C32_2 : ACode := .ops O32_2
def O32_4 : List AOp := [⟨(.some 6), .none, (.plain (.loadN 4 (.t 1)))⟩, ⟨(.some 3), .none, (.plain (.alloc [(.int .u64 0), (.int .u64 0), (.int .u64 0), (.int .u64 0)]))⟩, ⟨.none, .none, (.plain (.store 4 (.t 3) (.t 6)))⟩]
def C32_4 : ACode := .ops O32_4
def O32_7 : List AOp := [⟨(.some 7), .none, (.plain (.loadN 4 (.t 1)))⟩, ⟨(.some 8), .none, (.call 16 [(.t 7)])⟩, ⟨(.some 9), .none, (.plain (.len (.t 8)))⟩, ⟨(.some 10), .none, (.plain (.mv (.c (.int .i64 0))))⟩]
def C32_7 : ACode := .ops O32_7
def O32_11 : List AOp := [⟨(.some 11), .none, (.plain (.binI .lss (.t 10) (.t 9)))⟩]
def C32_11 : ACode := .ops O32_11
def C32_14 : ACode := .skip
def C32_15 : ACode := .exit 0
def C32_13 : ACode := .cond (.t 11) C32_14 C32_15
def O32_19 : List AOp := [⟨(.some 12), .none, (.plain (.iaddrL 1 (.t 8) (.t 10)))⟩, ⟨(.some 13), .none, (.plain (.load1 (.t 12)))⟩, ⟨(.some 5), .none, (.plain (.mv (.t 13)))⟩]
def C32_19 : ACode := .ops O32_19
def Q32_20 : List AOp := [⟨(.some 14), .none, (.plain (.loadN 4 (.t 3)))⟩, ⟨(.some 15), .none, (.plain (.mv (.t 5)))⟩, ⟨(.some 16), .none, (.call 42 [(.t 15)])⟩, ⟨(.some 17), .none, (.call 35 [(.t 14), (.t 16)])⟩]
def S32_20 : List AOp := [⟨.none, .none, (.plain (.store 4 (.t 3) (.t 17)))⟩]
def C32_20 : ACode := .draw [] 0 0 Q32_20 S32_20
def C32_18 : ACode := .seq C32_19 C32_20
def C32_17 : ACode := .block 1 C32_18
def O32_21 : List AOp := [⟨(.some 18), .none, (.plain (.binI .add (.t 10) (.c (.int .i64 1))))⟩, ⟨(.some 10), .none, (.plain (.mv (.t 18)))⟩]
def C32_21 : ACode := .ops O32_21
def C32_16 : ACode := .seq C32_17 C32_21
def C32_12 : ACode := .seq C32_13 C32_16
def C32_10 : ACode := .seq C32_11 C32_12
def C32_9 : ACode := .loop C32_10
def C32_8 : ACode := .block 0 C32_9
def C32_6 : ACode := .seq C32_7 C32_8
def O32_23 : List AOp := [⟨(.some 19), .none, (.plain (.loadN 4 (.t 3)))⟩, ⟨.none, .none, (.plain (.store 4 (.t 2) (.t 19)))⟩]
def C32_23 : ACode := .ops O32_23
def C32_24 : ACode := .ret
def C32_22 : ACode := .seq C32_23 C32_24
def C32_5 : ACode := .seq C32_6 C32_22
def C32_3 : ACode := .seq C32_4 C32_5
def C32_1 : ACode := .seq C32_2 C32_3
def R32 : List RA := [(.cellN 2 4)]
theorem k32 : compF Try.prog (muL []) 32 = some ⟨20, C32_1, R32⟩ := by kernel_rfl
noncomputable def X32 (r : Arr 4 Int) : Cx := ⟨Try.prog, noG, 20, muL [], R32, isD (fun x => x = AV.agg (c24 r))⟩
inductive St32 where
  | p1 (t8 : Sl Int) (t9 : Int) (t10 : Int) (t2 : Arr 4 Int) (s : Arr 4 Int)
noncomputable def G32 : St32 → Option (Arr 4 Int)
  | .p1 t8 t9 t10 t2 s =>
    (if (decide (t10 < t9)) = true then
      (ix (ls t8) t10 >>= fun v33 =>
        (F42 v33 >>= fun r35 =>
          (F35 s r35 >>= fun r37 =>
            (G32 (.p1 t8 t9 (IntKind.wrap .i64 (t10 + 1)) t2 r37)))))
    else
      (some s))
  partial_fixpoint
def M32 (x : St32) (r : Arr 4 Int) : Prop := match x with
  | .p1 t8 t9 t10 t2 s => ∀ (tm : Fr) (st : Store) (i0 : Nat) (i1 : Nat), tm 2 = .ptr i0 0 → tm 3 = .ptr i1 0 → tm 8 = slV 1 (AV.int .u8) t8 → tm 9 = AV.int .i64 t9 → tm 10 = AV.int .i64 t10 → st[i0]? = some (.cells (c24 t2)) → st[i1]? = some (.cells (c24 s)) → i0 ≠ i1 → AtL (X32 r) C32_10 [.blk 0, .seq C32_22] tm st
theorem w32 : ∀ (x : St32) (r : Arr 4 Int), G32 x = some r → M32 x r := by
  refine G32.partial_correctness M32 ?_
  intro g ih x r hF
  cases x with
  | p1 t8 t9 t10 t2 s =>
    dsimp only at hF
    intro tm st i0 i1 h2 h3 h8 h9 h10 o0 o1 n0_1
    refine atl_once ?_
    refine at_seq (a := C32_11) (b := C32_12) ?_
    refine at_ops (l := O32_11) ?_
    refine xo (e_bin (v := .bool (decide (t10 < t9))) h10 h9 rfl) ?_
    refine ato_nil ?_
    refine atn_seq ?_
    refine at_seq (a := C32_13) (b := C32_16) ?_
    refine at_cond (x := C32_14) (y := C32_15) rfl (fun c32 => ?_) (fun c32 => ?_)
    · have hF := ite_t c32 hF
      refine at_skip ?_
      refine atn_seq ?_
      refine at_seq (a := C32_17) (b := C32_21) ?_
      refine at_block (x := C32_18) ?_
      refine at_seq (a := C32_19) (b := C32_20) ?_
      refine at_ops (l := O32_19) ?_
      obtain ⟨v33, g34, hF⟩ := bind_some hF
      refine xo (e_iaddrL (rd_V h8) h10 g34) ?_
      refine xo (e_load1D (show _ = AV.dptr ((cI .u8) v33) from rfl) (DP.refl _)) ?_
      refine xo (e_mv' (v := AV.int .u8 v33) rfl) ?_
      refine ato_nil ?_
      refine atn_seq ?_
      refine at_draw0 (q := Q32_20) (suf := S32_20) ?_
      refine xd rfl (e_loadN h3 o1 (LR.whole _ _) (c24_len _)) ?_
      refine xd rfl (e_mv' (v := AV.int .u8 v33) rfl) ?_
      obtain ⟨r35, g36, hF⟩ := bind_some hF
      refine xd_dfun' (d42 v33 _ g36) (dsl_cons (ds_eq rfl ds_i) dsl_nil) ?_
      obtain ⟨r37, g38, hF⟩ := bind_some hF
      refine xd_dfun' (d35 s r35 _ g38) (dsl_cons (ds_eq rfl (ds_agg (c24_ds _))) (dsl_cons (ds_eq rfl ds_i) dsl_nil)) ?_
      refine atd_nil ?_
      refine xo_store h3 o1 (LR.whole _ _) (c24_len _) rfl rfl (c24_len _) (c24_one _) fun s39 o40 k41 => ?_
      have o42 := k41 _ _ o0 n0_1
      refine ato_nil ?_
      refine atn_blk ?_
      refine atn_seq ?_
      refine at_ops (l := O32_21) ?_
      refine xo (e_bin (v := .int .i64 (IntKind.wrap .i64 (t10 + 1))) h10 rfl rfl) ?_
      refine xo (e_mv' (v := AV.int .i64 (IntKind.wrap .i64 (t10 + 1))) rfl) ?_
      refine ato_nil ?_
      refine atn_lp ?_
      exact ih (.p1 t8 t9 (IntKind.wrap .i64 (t10 + 1)) t2 r37) _ hF _ _ _ _ h2 h3 h8 h9 rfl o42 o40 n0_1
    · have hF := ite_f c32 hF
      refine at_exit ?_
      refine atx (k' := [.seq C32_22]) rfl ?_
      refine atn_seq ?_
      refine at_seq (a := C32_23) (b := C32_24) ?_
      refine at_ops (l := O32_23) ?_
      refine xo (e_loadN h3 o1 (LR.whole _ _) (c24_len _)) ?_
      refine xo_store h2 o0 (LR.whole _ _) (c24_len _) rfl rfl (c24_len _) (c24_one _) fun s43 o44 k45 => ?_
      refine ato_nil ?_
      refine atn_seq ?_
      refine at_ret ?_
      cases hF
      exact atr (rl_cellN h2 o44 (LR.whole _ _) (c24_len _) rl_nil) (isd (ds_eq rfl (ds_agg (c24_ds _))))
noncomputable def F32 (a : Arr 4 Int) : Option (Arr 4 Int) :=
  (F16 a >>= fun r30 =>
    (G32 (.p1 r30 ((ls r30).length : Int) 0 (Arr.rep 4 0) a)))
theorem d32 (a : Arr 4 Int) (r : Arr 4 Int) (hF : F32 a = some r) : DFun Try.prog noG 32 [AV.agg (c24 a)] (AV.agg (c24 r)) := by
  unfold F32 at hF
  refine dfun_at k32 (Nat.le_of_ble_eq_true rfl) ?_
  show At (X32 r) _ _ _ _
  refine at_seq (a := C32_2) (b := C32_3) ?_
  refine at_ops (l := O32_2) ?_
  refine xo_box (cs := c24 a) rfl rfl (c24_len _) fun s2 i3 o4 k5 q6 => ?_
  refine xo_alloc (cs := c24 (Arr.rep 4 0)) rfl fun s8 i9 o10 k11 q12 => ?_
  have n13 : i3 ≠ i9 := fun e => ne_new o4 (e.trans q12)
  have o14 := keep0 k11 o4
  refine ato_nil ?_
  refine atn_seq ?_
  refine at_seq (a := C32_4) (b := C32_5) ?_
  refine at_ops (l := O32_4) ?_
  refine xo (e_loadN rfl o14 (LR.whole _ _) (c24_len _)) ?_
  refine xo_alloc (cs := c24 (Arr.rep 4 0)) rfl fun s16 i17 o18 k19 q20 => ?_
  have n21 : i3 ≠ i17 := fun e => ne_new o14 (e.trans q20)
  have n22 : i9 ≠ i17 := fun e => ne_new o10 (e.trans q20)
  have o23 := keep0 k19 o14
  have o24 := keep0 k19 o10
  refine xo_store rfl o18 (LR.whole _ _) (c24_len _) rfl rfl (c24_len _) (c24_one _) fun s25 o26 k27 => ?_
  have o28 := k27 _ _ o23 n21
  have o29 := k27 _ _ o24 n22
  refine ato_nil ?_
  refine atn_seq ?_
  refine at_seq (a := C32_6) (b := C32_22) ?_
  refine at_seq (a := C32_7) (b := C32_8) ?_
  refine at_ops (l := O32_7) ?_
  refine xo (e_loadN rfl o28 (LR.whole _ _) (c24_len _)) ?_
  obtain ⟨r30, g31, hF⟩ := bind_some hF
  refine xo_dfun' (d16 a _ g31) (dsl_cons (ds_eq rfl (ds_agg (c24_ds _))) dsl_nil) ?_
  refine xo (e_len (rd_V rfl)) ?_
  refine xo (e_mv' (v := AV.int .i64 0) rfl) ?_
  refine ato_nil ?_
  refine atn_seq ?_
  refine at_block (x := C32_9) ?_
  refine at_loop (b := C32_10) ?_
  exact w32 (.p1 r30 ((ls r30).length : Int) 0 (Arr.rep 4 0) a) _ hF _ _ _ _ rfl rfl rfl rfl rfl o29 o26 n22
/-! ### 41: paddock/sets.element -/
def O41_2 : List AOp := [⟨(.some 2), .none, (.plain (.mv (.c (.str []))))⟩]
def C41_2 : ACode := .ops O41_2
def O41_5 : List AOp := [⟨(.some 3), .none, (.plain (.mv (.t 0)))⟩]
def C41_5 : ACode := .ops O41_5
def O41_9 : List AOp := [⟨(.some 5), .none, (.plain (.binI .eql (.t 3) (.c (.int .u8 91))))⟩, ⟨(.some 4), .none, (.plain (.mv (.t 5)))⟩]
def C41_9 : ACode := .ops O41_9
def C41_11 : ACode := .skip
def O41_13 : List AOp := [⟨(.some 6), .none, (.plain (.binI .eql (.t 3) (.c (.int .u8 93))))⟩, ⟨(.some 4), .none, (.plain (.mv (.t 6)))⟩]
def C41_13 : ACode := .ops O41_13
def C41_15 : ACode := .skip
def O41_17 : List AOp := [⟨(.some 7), .none, (.plain (.binI .eql (.t 3) (.c (.int .u8 94))))⟩, ⟨(.some 4), .none, (.plain (.mv (.t 7)))⟩]
def C41_17 : ACode := .ops O41_17
def C41_19 : ACode := .skip
def O41_21 : List AOp := [⟨(.some 8), .none, (.plain (.binI .eql (.t 3) (.c (.int .u8 45))))⟩, ⟨(.some 4), .none, (.plain (.mv (.t 8)))⟩]
def C41_21 : ACode := .ops O41_21
def C41_23 : ACode := .skip
def O41_25 : List AOp := [⟨(.some 9), .none, (.plain (.binI .eql (.t 3) (.c (.int .u8 92))))⟩, ⟨(.some 4), .none, (.plain (.mv (.t 9)))⟩]
def C41_25 : ACode := .ops O41_25
def C41_27 : ACode := .skip
def O41_28 : List AOp := [⟨(.some 10), .none, (.plain (.binI .eql (.t 3) (.c (.int .u8 10))))⟩, ⟨(.some 4), .none, (.plain (.mv (.t 10)))⟩]
def C41_28 : ACode := .ops O41_28
def C41_26 : ACode := .cond (.t 4) C41_27 C41_28
def C41_24 : ACode := .seq C41_25 C41_26
def C41_22 : ACode := .cond (.t 4) C41_23 C41_24
def C41_20 : ACode := .seq C41_21 C41_22
def C41_18 : ACode := .cond (.t 4) C41_19 C41_20
def C41_16 : ACode := .seq C41_17 C41_18
def C41_14 : ACode := .cond (.t 4) C41_15 C41_16
def C41_12 : ACode := .seq C41_13 C41_14
def C41_10 : ACode := .cond (.t 4) C41_11 C41_12
def C41_8 : ACode := .seq C41_9 C41_10
def O41_31 : List AOp := [⟨(.some 11), .none, (.plain (.mv (.t 0)))⟩, ⟨(.some 12), .none, (.plain (.bslice 1 1 false [(.int .u8 0)] [(0, (1, (.t 11)))] false))⟩, ⟨(.some 13), .none, (.plain (.b2s (.t 12)))⟩, ⟨(.some 14), .none, (.plain (.binS .add (.c (.str [91, 46])) (.t 13)))⟩, ⟨(.some 15), .none, (.plain (.binS .add (.t 14) (.c (.str [46, 93]))))⟩, ⟨(.some 2), .none, (.plain (.mv (.t 15)))⟩]
def C41_31 : ACode := .ops O41_31
def C41_32 : ACode := .ret
def C41_30 : ACode := .seq C41_31 C41_32
def C41_33 : ACode := .skip
def C41_29 : ACode := .cond (.t 4) C41_30 C41_33
def C41_7 : ACode := .seq C41_8 C41_29
def C41_6 : ACode := .block 0 C41_7
def C41_4 : ACode := .seq C41_5 C41_6
def O41_35 : List AOp := [⟨(.some 16), .none, (.plain (.mv (.t 0)))⟩, ⟨(.some 17), .none, (.plain (.bslice 1 1 false [(.int .u8 0)] [(0, (1, (.t 16)))] false))⟩, ⟨(.some 18), .none, (.plain (.b2s (.t 17)))⟩, ⟨(.some 2), .none, (.plain (.mv (.t 18)))⟩]
def C41_35 : ACode := .ops O41_35
def C41_36 : ACode := .ret
def C41_34 : ACode := .seq C41_35 C41_36
def C41_3 : ACode := .seq C41_4 C41_34
def C41_1 : ACode := .seq C41_2 C41_3
def R41 : List RA := [(.tmp 2)]
theorem k41 : compF Try.prog (muL []) 41 = some ⟨19, C41_1, R41⟩ := by kernel_rfl
noncomputable def X41 (r : Str) : Cx := ⟨Try.prog, noG, 19, muL [], R41, isD (fun x => x = AV.str r)⟩
inductive St41 where
  | p1 (c : Int)
noncomputable def G41 : St41 → Option Str
  | .p1 c =>
    (if (([91, 46] : Str)).length + (toBs ([c] : List Int)).length ≤ 9223372036854775807 then
      (if (([91, 46] : Str) ++ (toBs ([c] : List Int))).length + (([46, 93] : Str)).length ≤ 9223372036854775807 then
        (some ((([91, 46] : Str) ++ (toBs ([c] : List Int))) ++ ([46, 93] : Str)))
      else none)
    else none)
def M41 (x : St41) (r : Str) : Prop := match x with
  | .p1 c => ∀ (tm : Fr) (st : Store), tm 0 = AV.int .u8 c → At (X41 r) C41_30 [.blk 0, .seq C41_34] tm st
theorem w41 : ∀ (x : St41) (r : Str), G41 x = some r → M41 x r := by
  intro x r hF
  cases x with
  | p1 c =>
    dsimp only [G41] at hF
    intro tm st h0
    refine at_seq (a := C41_31) (b := C41_32) ?_
    refine at_ops (l := O41_31) ?_
    refine xo (e_mv' (v := AV.int .u8 c) h0) ?_
    refine xo_bslice (f := AV.int .u8) (m := ([c] : List Int)) (pk_cons (cs := (cI .u8) c) rfl rfl ((cI_len .u8) _) (by decide) pk_nil) rfl rfl rfl fun s12 i13 o14 k15 q16 => ?_
    refine xo (e_b2s (rd_T rfl)) ?_
    obtain ⟨g17, hF⟩ := grd_some hF
    refine xo (e_str rfl rfl (op_cat _ _ g17)) ?_
    obtain ⟨g18, hF⟩ := grd_some hF
    refine xo (e_str rfl rfl (op_cat _ _ g18)) ?_
    refine xo (e_mv' (v := AV.str ((([91, 46] : Str) ++ (toBs ([c] : List Int))) ++ ([46, 93] : Str))) rfl) ?_
    refine ato_nil ?_
    refine atn_seq ?_
    refine at_ret ?_
    cases hF
    exact atr (rl_tmp rfl rl_nil) (isd (ds_eq rfl ds_s))
noncomputable def F41 (c : Int) : Option Str :=
  (if (c == 91) = true then
    (G41 (.p1 c))
  else
    (if (c == 93) = true then
      (G41 (.p1 c))
    else
      (if (c == 94) = true then
        (G41 (.p1 c))
      else
        (if (c == 45) = true then
          (G41 (.p1 c))
        else
          (if (c == 92) = true then
            (G41 (.p1 c))
          else
            (if (c == 10) = true then
              (G41 (.p1 c))
            else
              (some (toBs ([c] : List Int)))))))))
theorem d41 (c : Int) (r : Str) (hF : F41 c = some r) : DFun Try.prog noG 41 [AV.int .u8 c] (AV.str r) := by
  unfold F41 at hF
  refine dfun_at k41 (Nat.le_of_ble_eq_true rfl) ?_
  show At (X41 r) _ _ _ _
  refine at_seq (a := C41_2) (b := C41_3) ?_
  refine at_ops (l := O41_2) ?_
  refine xo (e_mv' (v := AV.str ([] : Str)) rfl) ?_
  refine ato_nil ?_
  refine atn_seq ?_
  refine at_seq (a := C41_4) (b := C41_34) ?_
  refine at_seq (a := C41_5) (b := C41_6) ?_
  refine at_ops (l := O41_5) ?_
  refine xo (e_mv' (v := AV.int .u8 c) rfl) ?_
  refine ato_nil ?_
  refine atn_seq ?_
  refine at_block (x := C41_7) ?_
  refine at_seq (a := C41_8) (b := C41_29) ?_
  refine at_seq (a := C41_9) (b := C41_10) ?_
  refine at_ops (l := O41_9) ?_
  refine xo (e_bin (v := .bool ((c == 91))) rfl rfl rfl) ?_
  refine xo (e_mv' (v := AV.bool (c == 91)) rfl) ?_
  refine ato_nil ?_
  refine atn_seq ?_
  refine at_cond (x := C41_11) (y := C41_12) rfl (fun c1 => ?_) (fun c1 => ?_)
  · have hF := ite_t c1 hF
    refine at_skip ?_
    refine atn_seq ?_
    refine at_cond_t (x := C41_30) (y := C41_33) rfl c1 ?_
    exact w41 (.p1 c) _ hF _ _ rfl
  · have hF := ite_f c1 hF
    refine at_seq (a := C41_13) (b := C41_14) ?_
    refine at_ops (l := O41_13) ?_
    refine xo (e_bin (v := .bool ((c == 93))) rfl rfl rfl) ?_
    refine xo (e_mv' (v := AV.bool (c == 93)) rfl) ?_
    refine ato_nil ?_
    refine atn_seq ?_
    refine at_cond (x := C41_15) (y := C41_16) rfl (fun c2 => ?_) (fun c2 => ?_)
    · have hF := ite_t c2 hF
      refine at_skip ?_
      refine atn_seq ?_
      refine at_cond_t (x := C41_30) (y := C41_33) rfl c2 ?_
      exact w41 (.p1 c) _ hF _ _ rfl
    · have hF := ite_f c2 hF
      refine at_seq (a := C41_17) (b := C41_18) ?_
      refine at_ops (l := O41_17) ?_
      refine xo (e_bin (v := .bool ((c == 94))) rfl rfl rfl) ?_
      refine xo (e_mv' (v := AV.bool (c == 94)) rfl) ?_
      refine ato_nil ?_
      refine atn_seq ?_
      refine at_cond (x := C41_19) (y := C41_20) rfl (fun c3 => ?_) (fun c3 => ?_)
      · have hF := ite_t c3 hF
        refine at_skip ?_
        refine atn_seq ?_
        refine at_cond_t (x := C41_30) (y := C41_33) rfl c3 ?_
        exact w41 (.p1 c) _ hF _ _ rfl
      · have hF := ite_f c3 hF
        refine at_seq (a := C41_21) (b := C41_22) ?_
        refine at_ops (l := O41_21) ?_
        refine xo (e_bin (v := .bool ((c == 45))) rfl rfl rfl) ?_
        refine xo (e_mv' (v := AV.bool (c == 45)) rfl) ?_
        refine ato_nil ?_
        refine atn_seq ?_
        refine at_cond (x := C41_23) (y := C41_24) rfl (fun c4 => ?_) (fun c4 => ?_)
        · have hF := ite_t c4 hF
          refine at_skip ?_
          refine atn_seq ?_
          refine at_cond_t (x := C41_30) (y := C41_33) rfl c4 ?_
          exact w41 (.p1 c) _ hF _ _ rfl
        · have hF := ite_f c4 hF
          refine at_seq (a := C41_25) (b := C41_26) ?_
          refine at_ops (l := O41_25) ?_
          refine xo (e_bin (v := .bool ((c == 92))) rfl rfl rfl) ?_
          refine xo (e_mv' (v := AV.bool (c == 92)) rfl) ?_
          refine ato_nil ?_
          refine atn_seq ?_
          refine at_cond (x := C41_27) (y := C41_28) rfl (fun c5 => ?_) (fun c5 => ?_)
          · have hF := ite_t c5 hF
            refine at_skip ?_
            refine atn_seq ?_
            refine at_cond_t (x := C41_30) (y := C41_33) rfl c5 ?_
            exact w41 (.p1 c) _ hF _ _ rfl
          · have hF := ite_f c5 hF
            refine at_ops (l := O41_28) ?_
            refine xo (e_bin (v := .bool ((c == 10))) rfl rfl rfl) ?_
            refine xo (e_mv' (v := AV.bool (c == 10)) rfl) ?_
            refine ato_nil ?_
            refine atn_seq ?_
            refine at_cond (x := C41_30) (y := C41_33) rfl (fun c6 => ?_) (fun c6 => ?_)
            · have hF := ite_t c6 hF
              exact w41 (.p1 c) _ hF _ _ rfl
            · have hF := ite_f c6 hF
              refine at_skip ?_
              refine atn_blk ?_
              refine atn_seq ?_
              refine at_seq (a := C41_35) (b := C41_36) ?_
              refine at_ops (l := O41_35) ?_
              refine xo (e_mv' (v := AV.int .u8 c) rfl) ?_
              refine xo_bslice (f := AV.int .u8) (m := ([c] : List Int)) (pk_cons (cs := (cI .u8) c) rfl rfl ((cI_len .u8) _) (by decide) pk_nil) rfl rfl rfl fun s7 i8 o9 k10 q11 => ?_
              refine xo (e_b2s (rd_T rfl)) ?_
              refine xo (e_mv' (v := AV.str (toBs ([c] : List Int))) rfl) ?_
              refine ato_nil ?_
              refine atn_seq ?_
              refine at_ret ?_
              cases hF
              exact atr (rl_tmp rfl rl_nil) (isd (ds_eq rfl ds_s))
/-! ### 43: paddock/paddockref07.told -/
def O43_2 : List AOp := [⟨(.some 2), .none, (.plain (.mv (.c (.str []))))⟩]
def C43_2 : ACode := .ops O43_2
def O43_5 : List AOp := [⟨(.some 3), .none, (.plain (.mv (.t 0)))⟩]
def C43_5 : ACode := .ops O43_5
def O43_9 : List AOp := [⟨(.some 5), .none, (.plain (.binI .eql (.t 3) (.c (.int .u8 91))))⟩, ⟨(.some 4), .none, (.plain (.mv (.t 5)))⟩]
def C43_9 : ACode := .ops O43_9
def C43_11 : ACode := .skip
def O43_13 : List AOp := [⟨(.some 6), .none, (.plain (.binI .eql (.t 3) (.c (.int .u8 93))))⟩, ⟨(.some 4), .none, (.plain (.mv (.t 6)))⟩]
def C43_13 : ACode := .ops O43_13
def C43_15 : ACode := .skip
def O43_17 : List AOp := [⟨(.some 7), .none, (.plain (.binI .eql (.t 3) (.c (.int .u8 94))))⟩, ⟨(.some 4), .none, (.plain (.mv (.t 7)))⟩]
def C43_17 : ACode := .ops O43_17
def C43_19 : ACode := .skip
def O43_21 : List AOp := [⟨(.some 8), .none, (.plain (.binI .eql (.t 3) (.c (.int .u8 45))))⟩, ⟨(.some 4), .none, (.plain (.mv (.t 8)))⟩]
def C43_21 : ACode := .ops O43_21
def C43_23 : ACode := .skip
def O43_25 : List AOp := [⟨(.some 9), .none, (.plain (.binI .eql (.t 3) (.c (.int .u8 92))))⟩, ⟨(.some 4), .none, (.plain (.mv (.t 9)))⟩]
def C43_25 : ACode := .ops O43_25
def C43_27 : ACode := .skip
def O43_28 : List AOp := [⟨(.some 10), .none, (.plain (.binI .eql (.t 3) (.c (.int .u8 10))))⟩, ⟨(.some 4), .none, (.plain (.mv (.t 10)))⟩]
def C43_28 : ACode := .ops O43_28
def C43_26 : ACode := .cond (.t 4) C43_27 C43_28
def C43_24 : ACode := .seq C43_25 C43_26
def C43_22 : ACode := .cond (.t 4) C43_23 C43_24
def C43_20 : ACode := .seq C43_21 C43_22
def C43_18 : ACode := .cond (.t 4) C43_19 C43_20
def C43_16 : ACode := .seq C43_17 C43_18
def C43_14 : ACode := .cond (.t 4) C43_15 C43_16
def C43_12 : ACode := .seq C43_13 C43_14
def C43_10 : ACode := .cond (.t 4) C43_11 C43_12
def C43_8 : ACode := .seq C43_9 C43_10
def O43_31 : List AOp := [⟨(.some 11), .none, (.plain (.mv (.t 0)))⟩, ⟨(.some 12), .none, (.plain (.bslice 1 1 false [(.int .u8 0)] [(0, (1, (.t 11)))] false))⟩, ⟨(.some 13), .none, (.plain (.b2s (.t 12)))⟩, ⟨(.some 14), .none, (.plain (.binS .add (.c (.str [91, 46])) (.t 13)))⟩, ⟨(.some 15), .none, (.plain (.binS .add (.t 14) (.c (.str [46, 93]))))⟩, ⟨(.some 2), .none, (.plain (.mv (.t 15)))⟩]
def C43_31 : ACode := .ops O43_31
def C43_32 : ACode := .ret
def C43_30 : ACode := .seq C43_31 C43_32
def C43_33 : ACode := .skip
def C43_29 : ACode := .cond (.t 4) C43_30 C43_33
def C43_7 : ACode := .seq C43_8 C43_29
def C43_6 : ACode := .block 0 C43_7
def C43_4 : ACode := .seq C43_5 C43_6
def O43_35 : List AOp := [⟨(.some 16), .none, (.plain (.mv (.t 0)))⟩, ⟨(.some 17), .none, (.plain (.bslice 1 1 false [(.int .u8 0)] [(0, (1, (.t 16)))] false))⟩, ⟨(.some 18), .none, (.plain (.b2s (.t 17)))⟩, ⟨(.some 2), .none, (.plain (.mv (.t 18)))⟩]
def C43_35 : ACode := .ops O43_35
def C43_36 : ACode := .ret
def C43_34 : ACode := .seq C43_35 C43_36
def C43_3 : ACode := .seq C43_4 C43_34
def C43_1 : ACode := .seq C43_2 C43_3
def R43 : List RA := [(.tmp 2)]
theorem k43 : compF Try.prog (muL []) 43 = some ⟨19, C43_1, R43⟩ := by kernel_rfl
noncomputable def X43 (r : Str) : Cx := ⟨Try.prog, noG, 19, muL [], R43, isD (fun x => x = AV.str r)⟩
inductive St43 where
  | p1 (c : Int)
noncomputable def G43 : St43 → Option Str
  | .p1 c =>
    (if (([91, 46] : Str)).length + (toBs ([c] : List Int)).length ≤ 9223372036854775807 then
      (if (([91, 46] : Str) ++ (toBs ([c] : List Int))).length + (([46, 93] : Str)).length ≤ 9223372036854775807 then
        (some ((([91, 46] : Str) ++ (toBs ([c] : List Int))) ++ ([46, 93] : Str)))
      else none)
    else none)
def M43 (x : St43) (r : Str) : Prop := match x with
  | .p1 c => ∀ (tm : Fr) (st : Store), tm 0 = AV.int .u8 c → At (X43 r) C43_30 [.blk 0, .seq C43_34] tm st
theorem w43 : ∀ (x : St43) (r : Str), G43 x = some r → M43 x r := by
  intro x r hF
  cases x with
  | p1 c =>
    dsimp only [G43] at hF
    intro tm st h0
    refine at_seq (a := C43_31) (b := C43_32) ?_
    refine at_ops (l := O43_31) ?_
    refine xo (e_mv' (v := AV.int .u8 c) h0) ?_
    refine xo_bslice (f := AV.int .u8) (m := ([c] : List Int)) (pk_cons (cs := (cI .u8) c) rfl rfl ((cI_len .u8) _) (by decide) pk_nil) rfl rfl rfl fun s12 i13 o14 k15 q16 => ?_
    refine xo (e_b2s (rd_T rfl)) ?_
    obtain ⟨g17, hF⟩ := grd_some hF
    refine xo (e_str rfl rfl (op_cat _ _ g17)) ?_
    obtain ⟨g18, hF⟩ := grd_some hF
    refine xo (e_str rfl rfl (op_cat _ _ g18)) ?_
    refine xo (e_mv' (v := AV.str ((([91, 46] : Str) ++ (toBs ([c] : List Int))) ++ ([46, 93] : Str))) rfl) ?_
    refine ato_nil ?_
    refine atn_seq ?_
    refine at_ret ?_
    cases hF
    exact atr (rl_tmp rfl rl_nil) (isd (ds_eq rfl ds_s))
noncomputable def F43 (c : Int) : Option Str :=
  (if (c == 91) = true then
    (G43 (.p1 c))
  else
    (if (c == 93) = true then
      (G43 (.p1 c))
    else
      (if (c == 94) = true then
        (G43 (.p1 c))
      else
        (if (c == 45) = true then
          (G43 (.p1 c))
        else
          (if (c == 92) = true then
            (G43 (.p1 c))
          else
            (if (c == 10) = true then
              (G43 (.p1 c))
            else
              (some (toBs ([c] : List Int)))))))))
theorem d43 (c : Int) (r : Str) (hF : F43 c = some r) : DFun Try.prog noG 43 [AV.int .u8 c] (AV.str r) := by
  unfold F43 at hF
  refine dfun_at k43 (Nat.le_of_ble_eq_true rfl) ?_
  show At (X43 r) _ _ _ _
  refine at_seq (a := C43_2) (b := C43_3) ?_
  refine at_ops (l := O43_2) ?_
  refine xo (e_mv' (v := AV.str ([] : Str)) rfl) ?_
  refine ato_nil ?_
  refine atn_seq ?_
  refine at_seq (a := C43_4) (b := C43_34) ?_
  refine at_seq (a := C43_5) (b := C43_6) ?_
  refine at_ops (l := O43_5) ?_
  refine xo (e_mv' (v := AV.int .u8 c) rfl) ?_
  refine ato_nil ?_
  refine atn_seq ?_
  refine at_block (x := C43_7) ?_
  refine at_seq (a := C43_8) (b := C43_29) ?_
  refine at_seq (a := C43_9) (b := C43_10) ?_
  refine at_ops (l := O43_9) ?_
  refine xo (e_bin (v := .bool ((c == 91))) rfl rfl rfl) ?_
  refine xo (e_mv' (v := AV.bool (c == 91)) rfl) ?_
  refine ato_nil ?_
  refine atn_seq ?_
  refine at_cond (x := C43_11) (y := C43_12) rfl (fun c1 => ?_) (fun c1 => ?_)
  · have hF := ite_t c1 hF
    refine at_skip ?_
    refine atn_seq ?_
    refine at_cond_t (x := C43_30) (y := C43_33) rfl c1 ?_
    exact w43 (.p1 c) _ hF _ _ rfl
  · have hF := ite_f c1 hF
    refine at_seq (a := C43_13) (b := C43_14) ?_
    refine at_ops (l := O43_13) ?_
    refine xo (e_bin (v := .bool ((c == 93))) rfl rfl rfl) ?_
    refine xo (e_mv' (v := AV.bool (c == 93)) rfl) ?_
    refine ato_nil ?_
    refine atn_seq ?_
    refine at_cond (x := C43_15) (y := C43_16) rfl (fun c2 => ?_) (fun c2 => ?_)
    · have hF := ite_t c2 hF
      refine at_skip ?_
      refine atn_seq ?_
      refine at_cond_t (x := C43_30) (y := C43_33) rfl c2 ?_
      exact w43 (.p1 c) _ hF _ _ rfl
    · have hF := ite_f c2 hF
      refine at_seq (a := C43_17) (b := C43_18) ?_
      refine at_ops (l := O43_17) ?_
      refine xo (e_bin (v := .bool ((c == 94))) rfl rfl rfl) ?_
      refine xo (e_mv' (v := AV.bool (c == 94)) rfl) ?_
      refine ato_nil ?_
      refine atn_seq ?_
      refine at_cond (x := C43_19) (y := C43_20) rfl (fun c3 => ?_) (fun c3 => ?_)
      · have hF := ite_t c3 hF
        refine at_skip ?_
        refine atn_seq ?_
        refine at_cond_t (x := C43_30) (y := C43_33) rfl c3 ?_
        exact w43 (.p1 c) _ hF _ _ rfl
      · have hF := ite_f c3 hF
        refine at_seq (a := C43_21) (b := C43_22) ?_
        refine at_ops (l := O43_21) ?_
        refine xo (e_bin (v := .bool ((c == 45))) rfl rfl rfl) ?_
        refine xo (e_mv' (v := AV.bool (c == 45)) rfl) ?_
        refine ato_nil ?_
        refine atn_seq ?_
        refine at_cond (x := C43_23) (y := C43_24) rfl (fun c4 => ?_) (fun c4 => ?_)
        · have hF := ite_t c4 hF
          refine at_skip ?_
          refine atn_seq ?_
          refine at_cond_t (x := C43_30) (y := C43_33) rfl c4 ?_
          exact w43 (.p1 c) _ hF _ _ rfl
        · have hF := ite_f c4 hF
          refine at_seq (a := C43_25) (b := C43_26) ?_
          refine at_ops (l := O43_25) ?_
          refine xo (e_bin (v := .bool ((c == 92))) rfl rfl rfl) ?_
          refine xo (e_mv' (v := AV.bool (c == 92)) rfl) ?_
          refine ato_nil ?_
          refine atn_seq ?_
          refine at_cond (x := C43_27) (y := C43_28) rfl (fun c5 => ?_) (fun c5 => ?_)
          · have hF := ite_t c5 hF
            refine at_skip ?_
            refine atn_seq ?_
            refine at_cond_t (x := C43_30) (y := C43_33) rfl c5 ?_
            exact w43 (.p1 c) _ hF _ _ rfl
          · have hF := ite_f c5 hF
            refine at_ops (l := O43_28) ?_
            refine xo (e_bin (v := .bool ((c == 10))) rfl rfl rfl) ?_
            refine xo (e_mv' (v := AV.bool (c == 10)) rfl) ?_
            refine ato_nil ?_
            refine atn_seq ?_
            refine at_cond (x := C43_30) (y := C43_33) rfl (fun c6 => ?_) (fun c6 => ?_)
            · have hF := ite_t c6 hF
              exact w43 (.p1 c) _ hF _ _ rfl
            · have hF := ite_f c6 hF
              refine at_skip ?_
              refine atn_blk ?_
              refine atn_seq ?_
              refine at_seq (a := C43_35) (b := C43_36) ?_
              refine at_ops (l := O43_35) ?_
              refine xo (e_mv' (v := AV.int .u8 c) rfl) ?_
              refine xo_bslice (f := AV.int .u8) (m := ([c] : List Int)) (pk_cons (cs := (cI .u8) c) rfl rfl ((cI_len .u8) _) (by decide) pk_nil) rfl rfl rfl fun s7 i8 o9 k10 q11 => ?_
              refine xo (e_b2s (rd_T rfl)) ?_
              refine xo (e_mv' (v := AV.str (toBs ([c] : List Int))) rfl) ?_
              refine ato_nil ?_
              refine atn_seq ?_
              refine at_ret ?_
              cases hF
              exact atr (rl_tmp rfl rl_nil) (isd (ds_eq rfl ds_s))
end Go.Proofs.Ytfjdegohjnejkaa
