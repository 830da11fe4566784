/-
  Functions of the program's as plain functions.
-/
import Derived.Test.YtfjdegohjnejkaaD0
set_option linter.unusedVariables false
set_option maxRecDepth 4000
set_option maxHeartbeats 4000000
namespace Go.Proofs.Ytfjdegohjnejkaa
open Go AW
attribute [local irreducible] At AtL AtO AtN AtX AtR AtD XS XLoop DFun XCall
/-! ### 16: paddock/paddockref07.Bytes -/
def O16_2 : List AOp := [⟨(.some 1), .none, (.plain (.box 4 (.t 0)))⟩, ⟨(.some 2), .none, (.plain (.mv (.c .nils)))⟩]
def C16_2 : ACode := .ops O16_2
def O16_4 : List AOp := [⟨(.some 3), .none, (.plain (.mv (.c .nils)))⟩]
def C16_4 : ACode := .ops O16_4
def O16_7 : List AOp := [⟨(.some 4), .none, (.plain (.mv (.c (.int .i64 0))))⟩]
def C16_7 : ACode := .ops O16_7
def O16_12 : List AOp := [⟨(.some 5), .none, (.plain (.mv (.t 4)))⟩, ⟨(.some 6), .none, (.plain (.binI .lss (.t 5) (.c (.int .i64 256))))⟩]
def C16_12 : ACode := .ops O16_12
def C16_14 : ACode := .skip
def C16_15 : ACode := .exit 0
def C16_13 : ACode := .cond (.t 6) C16_14 C16_15
def C16_11 : ACode := .seq C16_12 C16_13
def O16_19 : List AOp := [⟨(.some 9), .none, (.plain (.loadN 4 (.t 1)))⟩, ⟨(.some 10), .none, (.plain (.mv (.t 4)))⟩, ⟨(.some 11), .none, (.plain (.cvI .u8 (.t 10)))⟩, ⟨(.some 12), .none, (.call 18 [(.t 9), (.t 11)])⟩]
def C16_19 : ACode := .ops O16_19
def O16_21 : List AOp := [⟨(.some 13), .none, (.plain (.mv (.t 3)))⟩, ⟨(.some 14), .none, (.plain (.mv (.t 4)))⟩, ⟨(.some 15), .none, (.plain (.cvI .u8 (.t 14)))⟩, ⟨(.some 16), .none, (.plain (.bslice 1 1 false [(.int .u8 0)] [(0, (1, (.t 15)))] false))⟩, ⟨(.some 17), .none, (.plain (.app 1 1 (.t 13) (.t 16)))⟩, ⟨(.some 3), .none, (.plain (.mv (.t 17)))⟩]
def C16_21 : ACode := .ops O16_21
def C16_22 : ACode := .skip
def C16_20 : ACode := .cond (.t 12) C16_21 C16_22
def C16_18 : ACode := .seq C16_19 C16_20
def C16_17 : ACode := .block 1 C16_18
def O16_23 : List AOp := [⟨(.some 7), .none, (.plain (.mv (.t 4)))⟩, ⟨(.some 8), .none, (.plain (.binI .add (.t 7) (.c (.int .i64 1))))⟩, ⟨(.some 4), .none, (.plain (.mv (.t 8)))⟩]
def C16_23 : ACode := .ops O16_23
def C16_16 : ACode := .seq C16_17 C16_23
def C16_10 : ACode := .seq C16_11 C16_16
def C16_9 : ACode := .loop C16_10
def C16_8 : ACode := .block 0 C16_9
def C16_6 : ACode := .seq C16_7 C16_8
def O16_25 : List AOp := [⟨(.some 18), .none, (.plain (.mv (.t 3)))⟩, ⟨(.some 2), .none, (.plain (.mv (.t 18)))⟩]
def C16_25 : ACode := .ops O16_25
def C16_26 : ACode := .ret
def C16_24 : ACode := .seq C16_25 C16_26
def C16_5 : ACode := .seq C16_6 C16_24
def C16_3 : ACode := .seq C16_4 C16_5
def C16_1 : ACode := .seq C16_2 C16_3
def R16 : List RA := [(.tmp 2)]
theorem k16 : compF Try.prog (muL []) 16 = some ⟨19, C16_1, R16⟩ := by kernel_rfl
noncomputable def X16 (r : Sl Int) : Cx := ⟨Try.prog, noG, 19, muL [], R16, isD (fun x => x = slV 1 (AV.int .u8) r)⟩
inductive St16 where
  | p1 (out : Sl Int) (c : Int) (s : Arr 4 Int)
noncomputable def G16 : St16 → Option (Sl Int)
  | .p1 out c s =>
    (if (decide (c < 256)) = true then
      (F18 s (IntKind.wrap .u8 c) >>= fun r8 =>
        (if r8 = true then
          (if ((ls out).length + (([IntKind.wrap .u8 c] : List Int)).length) * 1 ≤ 140737488355328 then
            (G16 (.p1 (sapp out ([IntKind.wrap .u8 c] : List Int)) (IntKind.wrap .i64 (c + 1)) s))
          else none)
        else
          (G16 (.p1 out (IntKind.wrap .i64 (c + 1)) s))))
    else
      (some out))
  partial_fixpoint
def M16 (x : St16) (r : Sl Int) : Prop := match x with
  | .p1 out c s => ∀ (tm : Fr) (st : Store) (i0 : Nat) (fp3 : Option Nat), tm 1 = .ptr i0 0 → OwnV 1 (AV.int .u8) out st (tm 3) fp3 → tm 4 = AV.int .i64 c → st[i0]? = some (.cells (c24 s)) → AtL (X16 r) C16_10 [.blk 0, .seq C16_24] tm st
theorem w16 : ∀ (x : St16) (r : Sl Int), G16 x = some r → M16 x r := by
  refine G16.partial_correctness M16 ?_
  intro g ih x r hF
  cases x with
  | p1 out c s =>
    dsimp only at hF
    intro tm st i0 fp3 h1 h3 h4 o0
    refine atl_once ?_
    refine at_seq (a := C16_11) (b := C16_16) ?_
    refine at_seq (a := C16_12) (b := C16_13) ?_
    refine at_ops (l := O16_12) ?_
    refine xo (e_mv' (v := AV.int .i64 c) h4) ?_
    refine xo (e_bin (v := .bool (decide (c < 256))) rfl rfl rfl) ?_
    refine ato_nil ?_
    refine atn_seq ?_
    refine at_cond (x := C16_14) (y := C16_15) rfl (fun c7 => ?_) (fun c7 => ?_)
    · have hF := ite_t c7 hF
      refine at_skip ?_
      refine atn_seq ?_
      refine at_seq (a := C16_17) (b := C16_23) ?_
      refine at_block (x := C16_18) ?_
      refine at_seq (a := C16_19) (b := C16_20) ?_
      refine at_ops (l := O16_19) ?_
      refine xo (e_loadN h1 o0 (LR.whole _ _) (c24_len _)) ?_
      refine xo (e_mv' (v := AV.int .i64 c) h4) ?_
      refine xo (e_cvI rfl) ?_
      obtain ⟨r8, g9, hF⟩ := bind_some hF
      refine xo_dfun' (d18 s (IntKind.wrap .u8 c) _ g9) (dsl_cons (ds_eq rfl (ds_agg (c24_ds _))) (dsl_cons (ds_eq rfl ds_i) dsl_nil)) ?_
      refine ato_nil ?_
      refine atn_seq ?_
      refine at_cond (x := C16_21) (y := C16_22) rfl (fun c10 => ?_) (fun c10 => ?_)
      · have hF := ite_t c10 hF
        refine at_ops (l := O16_21) ?_
        refine xo (e_mv' (v := (tm 3)) rfl) ?_
        refine xo (e_mv' (v := AV.int .i64 c) h4) ?_
        refine xo (e_cvI rfl) ?_
        refine xo_bslice (f := AV.int .u8) (m := ([IntKind.wrap .u8 c] : List Int)) (pk_cons (cs := (cI .u8) (IntKind.wrap .u8 c)) rfl rfl ((cI_len .u8) _) (by decide) pk_nil) rfl rfl rfl fun s11 i12 o13 k14 q15 => ?_
        have o16 := keep0 k14 o0
        have w17 := own_keep0 k14 h3
        obtain ⟨g18, hF⟩ := grd_some hF
        refine xo_app (o := out) (ys := ([IntKind.wrap .u8 c] : List Int)) w17 (ae_rd (rd_T rfl)) g18 fun v19 s20 f21 w22 k23 j24 => ?_
        have o25 := k23 _ _ o16 (own_ncc o16 w17)
        refine xo (e_mv' (v := v19) rfl) ?_
        refine ato_nil ?_
        refine atn_blk ?_
        refine atn_seq ?_
        refine at_ops (l := O16_23) ?_
        refine xo (e_mv' (v := AV.int .i64 c) h4) ?_
        refine xo (e_bin (v := .int .i64 (IntKind.wrap .i64 (c + 1))) rfl rfl rfl) ?_
        refine xo (e_mv' (v := AV.int .i64 (IntKind.wrap .i64 (c + 1))) rfl) ?_
        refine ato_nil ?_
        refine atn_lp ?_
        exact ih (.p1 (sapp out ([IntKind.wrap .u8 c] : List Int)) (IntKind.wrap .i64 (c + 1)) s) _ hF _ _ _ _ h1 w22 rfl o25
      · have hF := ite_f c10 hF
        refine at_skip ?_
        refine atn_blk ?_
        refine atn_seq ?_
        refine at_ops (l := O16_23) ?_
        refine xo (e_mv' (v := AV.int .i64 c) h4) ?_
        refine xo (e_bin (v := .int .i64 (IntKind.wrap .i64 (c + 1))) rfl rfl rfl) ?_
        refine xo (e_mv' (v := AV.int .i64 (IntKind.wrap .i64 (c + 1))) rfl) ?_
        refine ato_nil ?_
        refine atn_lp ?_
        exact ih (.p1 out (IntKind.wrap .i64 (c + 1)) s) _ hF _ _ _ _ h1 h3 rfl o0
    · have hF := ite_f c7 hF
      refine at_exit ?_
      refine atx (k' := [.seq C16_24]) rfl ?_
      refine atn_seq ?_
      refine at_seq (a := C16_25) (b := C16_26) ?_
      refine at_ops (l := O16_25) ?_
      refine xo (e_mv' (v := (tm 3)) rfl) ?_
      refine xo (e_mv' (v := (tm 3)) rfl) ?_
      refine ato_nil ?_
      refine atn_seq ?_
      refine at_ret ?_
      cases hF
      exact atr (rl_tmp rfl rl_nil) (isd (ds_rd (fun _ => ds_i) (rd_O h3)))
noncomputable def F16 (s : Arr 4 Int) : Option (Sl Int) :=
  (G16 (.p1 none 0 s))
theorem d16 (s : Arr 4 Int) (r : Sl Int) (hF : F16 s = some r) : DFun Try.prog noG 16 [AV.agg (c24 s)] (slV 1 (AV.int .u8) r) := by
  unfold F16 at hF
  refine dfun_at k16 (Nat.le_of_ble_eq_true rfl) ?_
  show At (X16 r) _ _ _ _
  refine at_seq (a := C16_2) (b := C16_3) ?_
  refine at_ops (l := O16_2) ?_
  refine xo_box (cs := c24 s) rfl rfl (c24_len _) fun s2 i3 o4 k5 q6 => ?_
  refine xo (e_mv' (show _ = slV 1 (AV.int .u8) none from rfl)) ?_
  refine ato_nil ?_
  refine atn_seq ?_
  refine at_seq (a := C16_4) (b := C16_5) ?_
  refine at_ops (l := O16_4) ?_
  refine xo (e_mv' rfl) ?_
  refine ato_nil ?_
  refine atn_seq ?_
  refine at_seq (a := C16_6) (b := C16_24) ?_
  refine at_seq (a := C16_7) (b := C16_8) ?_
  refine at_ops (l := O16_7) ?_
  refine xo (e_mv' (v := AV.int .i64 0) rfl) ?_
  refine ato_nil ?_
  refine atn_seq ?_
  refine at_block (x := C16_9) ?_
  refine at_loop (b := C16_10) ?_
  exact w16 (.p1 none 0 s) _ hF _ _ _ _ rfl (own_nil rfl) rfl o4
/-! ### 37: math/bits.OnesCount64 -/
def O37_2 : List AOp := [⟨(.some 2), .none, (.plain (.mv (.c (.int .i64 0))))⟩]
def C37_2 : ACode := .ops O37_2
def O37_4 : List AOp := [⟨(.some 3), .none, (.plain (.mv (.t 0)))⟩, ⟨(.some 4), .none, (.plain (.binI .shr (.t 3) (.c (.int .u64 1))))⟩, ⟨(.some 5), .none, (.plain (.binI .and (.t 4) (.c (.int .u64 6148914691236517205))))⟩, ⟨(.some 6), .none, (.plain (.mv (.t 0)))⟩, ⟨(.some 7), .none, (.plain (.binI .and (.t 6) (.c (.int .u64 6148914691236517205))))⟩, ⟨(.some 8), .none, (.plain (.binI .add (.t 5) (.t 7)))⟩, ⟨(.some 0), .none, (.plain (.mv (.t 8)))⟩]
def C37_4 : ACode := .ops O37_4
def O37_6 : List AOp := [⟨(.some 9), .none, (.plain (.mv (.t 0)))⟩, ⟨(.some 10), .none, (.plain (.binI .shr (.t 9) (.c (.int .u64 2))))⟩, ⟨(.some 11), .none, (.plain (.binI .and (.t 10) (.c (.int .u64 3689348814741910323))))⟩, ⟨(.some 12), .none, (.plain (.mv (.t 0)))⟩, ⟨(.some 13), .none, (.plain (.binI .and (.t 12) (.c (.int .u64 3689348814741910323))))⟩, ⟨(.some 14), .none, (.plain (.binI .add (.t 11) (.t 13)))⟩, ⟨(.some 0), .none, (.plain (.mv (.t 14)))⟩]
def C37_6 : ACode := .ops O37_6
def O37_8 : List AOp := [⟨(.some 15), .none, (.plain (.mv (.t 0)))⟩, ⟨(.some 16), .none, (.plain (.binI .shr (.t 15) (.c (.int .u64 4))))⟩, ⟨(.some 17), .none, (.plain (.mv (.t 0)))⟩, ⟨(.some 18), .none, (.plain (.binI .add (.t 16) (.t 17)))⟩, ⟨(.some 19), .none, (.plain (.binI .and (.t 18) (.c (.int .u64 1085102592571150095))))⟩, ⟨(.some 0), .none, (.plain (.mv (.t 19)))⟩]
def C37_8 : ACode := .ops O37_8
def O37_10 : List AOp := [⟨(.some 20), .none, (.plain (.mv (.t 0)))⟩, ⟨(.some 21), .none, (.plain (.mv (.t 0)))⟩, ⟨(.some 22), .none, (.plain (.binI .shr (.t 21) (.c (.int .u64 8))))⟩, ⟨(.some 23), .none, (.plain (.binI .add (.t 20) (.t 22)))⟩, ⟨(.some 0), .none, (.plain (.mv (.t 23)))⟩]
def C37_10 : ACode := .ops O37_10
def O37_12 : List AOp := [⟨(.some 24), .none, (.plain (.mv (.t 0)))⟩, ⟨(.some 25), .none, (.plain (.mv (.t 0)))⟩, ⟨(.some 26), .none, (.plain (.binI .shr (.t 25) (.c (.int .u64 16))))⟩, ⟨(.some 27), .none, (.plain (.binI .add (.t 24) (.t 26)))⟩, ⟨(.some 0), .none, (.plain (.mv (.t 27)))⟩]
def C37_12 : ACode := .ops O37_12
def O37_14 : List AOp := [⟨(.some 28), .none, (.plain (.mv (.t 0)))⟩, ⟨(.some 29), .none, (.plain (.mv (.t 0)))⟩, ⟨(.some 30), .none, (.plain (.binI .shr (.t 29) (.c (.int .u64 32))))⟩, ⟨(.some 31), .none, (.plain (.binI .add (.t 28) (.t 30)))⟩, ⟨(.some 0), .none, (.plain (.mv (.t 31)))⟩]
def C37_14 : ACode := .ops O37_14
def O37_16 : List AOp := [⟨(.some 32), .none, (.plain (.mv (.t 0)))⟩, ⟨(.some 33), .none, (.plain (.cvI .i64 (.t 32)))⟩, ⟨(.some 34), .none, (.plain (.binI .and (.t 33) (.c (.int .i64 127))))⟩, ⟨(.some 2), .none, (.plain (.mv (.t 34)))⟩]
def C37_16 : ACode := .ops O37_16
def C37_17 : ACode := .ret
def C37_15 : ACode := .seq C37_16 C37_17
def C37_13 : ACode := .seq C37_14 C37_15
def C37_11 : ACode := .seq C37_12 C37_13
def C37_9 : ACode := .seq C37_10 C37_11
def C37_7 : ACode := .seq C37_8 C37_9
def C37_5 : ACode := .seq C37_6 C37_7
def C37_3 : ACode := .seq C37_4 C37_5
def C37_1 : ACode := .seq C37_2 C37_3
def R37 : List RA := [(.tmp 2)]
theorem k37 : compF Try.prog (muL []) 37 = some ⟨35, C37_1, R37⟩ := by kernel_rfl
noncomputable def X37 (r : Int) : Cx := ⟨Try.prog, noG, 35, muL [], R37, isD (fun x => x = AV.int .i64 r)⟩
noncomputable def F37 (x_ : Int) : Option Int :=
  (some (andI .i64 (IntKind.wrap .i64 (IntKind.wrap .u64 ((IntKind.wrap .u64 ((IntKind.wrap .u64 ((andI .u64 (IntKind.wrap .u64 ((shrI .u64 (IntKind.wrap .u64 ((andI .u64 (shrI .u64 (IntKind.wrap .u64 ((andI .u64 (shrI .u64 x_ 1) 6148914691236517205) + (andI .u64 x_ 6148914691236517205))) 2) 3689348814741910323) + (andI .u64 (IntKind.wrap .u64 ((andI .u64 (shrI .u64 x_ 1) 6148914691236517205) + (andI .u64 x_ 6148914691236517205))) 3689348814741910323))) 4) + (IntKind.wrap .u64 ((andI .u64 (shrI .u64 (IntKind.wrap .u64 ((andI .u64 (shrI .u64 x_ 1) 6148914691236517205) + (andI .u64 x_ 6148914691236517205))) 2) 3689348814741910323) + (andI .u64 (IntKind.wrap .u64 ((andI .u64 (shrI .u64 x_ 1) 6148914691236517205) + (andI .u64 x_ 6148914691236517205))) 3689348814741910323))))) 1085102592571150095) + (shrI .u64 (andI .u64 (IntKind.wrap .u64 ((shrI .u64 (IntKind.wrap .u64 ((andI .u64 (shrI .u64 (IntKind.wrap .u64 ((andI .u64 (shrI .u64 x_ 1) 6148914691236517205) + (andI .u64 x_ 6148914691236517205))) 2) 3689348814741910323) + (andI .u64 (IntKind.wrap .u64 ((andI .u64 (shrI .u64 x_ 1) 6148914691236517205) + (andI .u64 x_ 6148914691236517205))) 3689348814741910323))) 4) + (IntKind.wrap .u64 ((andI .u64 (shrI .u64 (IntKind.wrap .u64 ((andI .u64 (shrI .u64 x_ 1) 6148914691236517205) + (andI .u64 x_ 6148914691236517205))) 2) 3689348814741910323) + (andI .u64 (IntKind.wrap .u64 ((andI .u64 (shrI .u64 x_ 1) 6148914691236517205) + (andI .u64 x_ 6148914691236517205))) 3689348814741910323))))) 1085102592571150095) 8))) + (shrI .u64 (IntKind.wrap .u64 ((andI .u64 (IntKind.wrap .u64 ((shrI .u64 (IntKind.wrap .u64 ((andI .u64 (shrI .u64 (IntKind.wrap .u64 ((andI .u64 (shrI .u64 x_ 1) 6148914691236517205) + (andI .u64 x_ 6148914691236517205))) 2) 3689348814741910323) + (andI .u64 (IntKind.wrap .u64 ((andI .u64 (shrI .u64 x_ 1) 6148914691236517205) + (andI .u64 x_ 6148914691236517205))) 3689348814741910323))) 4) + (IntKind.wrap .u64 ((andI .u64 (shrI .u64 (IntKind.wrap .u64 ((andI .u64 (shrI .u64 x_ 1) 6148914691236517205) + (andI .u64 x_ 6148914691236517205))) 2) 3689348814741910323) + (andI .u64 (IntKind.wrap .u64 ((andI .u64 (shrI .u64 x_ 1) 6148914691236517205) + (andI .u64 x_ 6148914691236517205))) 3689348814741910323))))) 1085102592571150095) + (shrI .u64 (andI .u64 (IntKind.wrap .u64 ((shrI .u64 (IntKind.wrap .u64 ((andI .u64 (shrI .u64 (IntKind.wrap .u64 ((andI .u64 (shrI .u64 x_ 1) 6148914691236517205) + (andI .u64 x_ 6148914691236517205))) 2) 3689348814741910323) + (andI .u64 (IntKind.wrap .u64 ((andI .u64 (shrI .u64 x_ 1) 6148914691236517205) + (andI .u64 x_ 6148914691236517205))) 3689348814741910323))) 4) + (IntKind.wrap .u64 ((andI .u64 (shrI .u64 (IntKind.wrap .u64 ((andI .u64 (shrI .u64 x_ 1) 6148914691236517205) + (andI .u64 x_ 6148914691236517205))) 2) 3689348814741910323) + (andI .u64 (IntKind.wrap .u64 ((andI .u64 (shrI .u64 x_ 1) 6148914691236517205) + (andI .u64 x_ 6148914691236517205))) 3689348814741910323))))) 1085102592571150095) 8))) 16))) + (shrI .u64 (IntKind.wrap .u64 ((IntKind.wrap .u64 ((andI .u64 (IntKind.wrap .u64 ((shrI .u64 (IntKind.wrap .u64 ((andI .u64 (shrI .u64 (IntKind.wrap .u64 ((andI .u64 (shrI .u64 x_ 1) 6148914691236517205) + (andI .u64 x_ 6148914691236517205))) 2) 3689348814741910323) + (andI .u64 (IntKind.wrap .u64 ((andI .u64 (shrI .u64 x_ 1) 6148914691236517205) + (andI .u64 x_ 6148914691236517205))) 3689348814741910323))) 4) + (IntKind.wrap .u64 ((andI .u64 (shrI .u64 (IntKind.wrap .u64 ((andI .u64 (shrI .u64 x_ 1) 6148914691236517205) + (andI .u64 x_ 6148914691236517205))) 2) 3689348814741910323) + (andI .u64 (IntKind.wrap .u64 ((andI .u64 (shrI .u64 x_ 1) 6148914691236517205) + (andI .u64 x_ 6148914691236517205))) 3689348814741910323))))) 1085102592571150095) + (shrI .u64 (andI .u64 (IntKind.wrap .u64 ((shrI .u64 (IntKind.wrap .u64 ((andI .u64 (shrI .u64 (IntKind.wrap .u64 ((andI .u64 (shrI .u64 x_ 1) 6148914691236517205) + (andI .u64 x_ 6148914691236517205))) 2) 3689348814741910323) + (andI .u64 (IntKind.wrap .u64 ((andI .u64 (shrI .u64 x_ 1) 6148914691236517205) + (andI .u64 x_ 6148914691236517205))) 3689348814741910323))) 4) + (IntKind.wrap .u64 ((andI .u64 (shrI .u64 (IntKind.wrap .u64 ((andI .u64 (shrI .u64 x_ 1) 6148914691236517205) + (andI .u64 x_ 6148914691236517205))) 2) 3689348814741910323) + (andI .u64 (IntKind.wrap .u64 ((andI .u64 (shrI .u64 x_ 1) 6148914691236517205) + (andI .u64 x_ 6148914691236517205))) 3689348814741910323))))) 1085102592571150095) 8))) + (shrI .u64 (IntKind.wrap .u64 ((andI .u64 (IntKind.wrap .u64 ((shrI .u64 (IntKind.wrap .u64 ((andI .u64 (shrI .u64 (IntKind.wrap .u64 ((andI .u64 (shrI .u64 x_ 1) 6148914691236517205) + (andI .u64 x_ 6148914691236517205))) 2) 3689348814741910323) + (andI .u64 (IntKind.wrap .u64 ((andI .u64 (shrI .u64 x_ 1) 6148914691236517205) + (andI .u64 x_ 6148914691236517205))) 3689348814741910323))) 4) + (IntKind.wrap .u64 ((andI .u64 (shrI .u64 (IntKind.wrap .u64 ((andI .u64 (shrI .u64 x_ 1) 6148914691236517205) + (andI .u64 x_ 6148914691236517205))) 2) 3689348814741910323) + (andI .u64 (IntKind.wrap .u64 ((andI .u64 (shrI .u64 x_ 1) 6148914691236517205) + (andI .u64 x_ 6148914691236517205))) 3689348814741910323))))) 1085102592571150095) + (shrI .u64 (andI .u64 (IntKind.wrap .u64 ((shrI .u64 (IntKind.wrap .u64 ((andI .u64 (shrI .u64 (IntKind.wrap .u64 ((andI .u64 (shrI .u64 x_ 1) 6148914691236517205) + (andI .u64 x_ 6148914691236517205))) 2) 3689348814741910323) + (andI .u64 (IntKind.wrap .u64 ((andI .u64 (shrI .u64 x_ 1) 6148914691236517205) + (andI .u64 x_ 6148914691236517205))) 3689348814741910323))) 4) + (IntKind.wrap .u64 ((andI .u64 (shrI .u64 (IntKind.wrap .u64 ((andI .u64 (shrI .u64 x_ 1) 6148914691236517205) + (andI .u64 x_ 6148914691236517205))) 2) 3689348814741910323) + (andI .u64 (IntKind.wrap .u64 ((andI .u64 (shrI .u64 x_ 1) 6148914691236517205) + (andI .u64 x_ 6148914691236517205))) 3689348814741910323))))) 1085102592571150095) 8))) 16))) 32)))) 127))
theorem d37 (x_ : Int) (r : Int) (hF : F37 x_ = some r) : DFun Try.prog noG 37 [AV.int .u64 x_] (AV.int .i64 r) := by
  unfold F37 at hF
  refine dfun_at k37 (Nat.le_of_ble_eq_true rfl) ?_
  show At (X37 r) _ _ _ _
  refine at_seq (a := C37_2) (b := C37_3) ?_
  refine at_ops (l := O37_2) ?_
  refine xo (e_mv' (v := AV.int .i64 0) rfl) ?_
  refine ato_nil ?_
  refine atn_seq ?_
  refine at_seq (a := C37_4) (b := C37_5) ?_
  refine at_ops (l := O37_4) ?_
  refine xo (e_mv' (v := AV.int .u64 x_) rfl) ?_
  refine xo (e_bin rfl rfl (op_shr _ _ _ _ (by decide))) ?_
  refine xo (e_bin rfl rfl (op_and _ _ _)) ?_
  refine xo (e_mv' (v := AV.int .u64 x_) rfl) ?_
  refine xo (e_bin rfl rfl (op_and _ _ _)) ?_
  refine xo (e_bin (v := .int .u64 (IntKind.wrap .u64 ((andI .u64 (shrI .u64 x_ 1) 6148914691236517205) + (andI .u64 x_ 6148914691236517205)))) rfl rfl rfl) ?_
  refine xo (e_mv' (v := AV.int .u64 (IntKind.wrap .u64 ((andI .u64 (shrI .u64 x_ 1) 6148914691236517205) + (andI .u64 x_ 6148914691236517205)))) rfl) ?_
  refine ato_nil ?_
  refine atn_seq ?_
  refine at_seq (a := C37_6) (b := C37_7) ?_
  refine at_ops (l := O37_6) ?_
  refine xo (e_mv' (v := AV.int .u64 (IntKind.wrap .u64 ((andI .u64 (shrI .u64 x_ 1) 6148914691236517205) + (andI .u64 x_ 6148914691236517205)))) rfl) ?_
  refine xo (e_bin rfl rfl (op_shr _ _ _ _ (by decide))) ?_
  refine xo (e_bin rfl rfl (op_and _ _ _)) ?_
  refine xo (e_mv' (v := AV.int .u64 (IntKind.wrap .u64 ((andI .u64 (shrI .u64 x_ 1) 6148914691236517205) + (andI .u64 x_ 6148914691236517205)))) rfl) ?_
  refine xo (e_bin rfl rfl (op_and _ _ _)) ?_
  refine xo (e_bin (v := .int .u64 (IntKind.wrap .u64 ((andI .u64 (shrI .u64 (IntKind.wrap .u64 ((andI .u64 (shrI .u64 x_ 1) 6148914691236517205) + (andI .u64 x_ 6148914691236517205))) 2) 3689348814741910323) + (andI .u64 (IntKind.wrap .u64 ((andI .u64 (shrI .u64 x_ 1) 6148914691236517205) + (andI .u64 x_ 6148914691236517205))) 3689348814741910323)))) rfl rfl rfl) ?_
  refine xo (e_mv' (v := AV.int .u64 (IntKind.wrap .u64 ((andI .u64 (shrI .u64 (IntKind.wrap .u64 ((andI .u64 (shrI .u64 x_ 1) 6148914691236517205) + (andI .u64 x_ 6148914691236517205))) 2) 3689348814741910323) + (andI .u64 (IntKind.wrap .u64 ((andI .u64 (shrI .u64 x_ 1) 6148914691236517205) + (andI .u64 x_ 6148914691236517205))) 3689348814741910323)))) rfl) ?_
  refine ato_nil ?_
  refine atn_seq ?_
  refine at_seq (a := C37_8) (b := C37_9) ?_
  refine at_ops (l := O37_8) ?_
  refine xo (e_mv' (v := AV.int .u64 (IntKind.wrap .u64 ((andI .u64 (shrI .u64 (IntKind.wrap .u64 ((andI .u64 (shrI .u64 x_ 1) 6148914691236517205) + (andI .u64 x_ 6148914691236517205))) 2) 3689348814741910323) + (andI .u64 (IntKind.wrap .u64 ((andI .u64 (shrI .u64 x_ 1) 6148914691236517205) + (andI .u64 x_ 6148914691236517205))) 3689348814741910323)))) rfl) ?_
  refine xo (e_bin rfl rfl (op_shr _ _ _ _ (by decide))) ?_
  refine xo (e_mv' (v := AV.int .u64 (IntKind.wrap .u64 ((andI .u64 (shrI .u64 (IntKind.wrap .u64 ((andI .u64 (shrI .u64 x_ 1) 6148914691236517205) + (andI .u64 x_ 6148914691236517205))) 2) 3689348814741910323) + (andI .u64 (IntKind.wrap .u64 ((andI .u64 (shrI .u64 x_ 1) 6148914691236517205) + (andI .u64 x_ 6148914691236517205))) 3689348814741910323)))) rfl) ?_
  refine xo (e_bin (v := .int .u64 (IntKind.wrap .u64 ((shrI .u64 (IntKind.wrap .u64 ((andI .u64 (shrI .u64 (IntKind.wrap .u64 ((andI .u64 (shrI .u64 x_ 1) 6148914691236517205) + (andI .u64 x_ 6148914691236517205))) 2) 3689348814741910323) + (andI .u64 (IntKind.wrap .u64 ((andI .u64 (shrI .u64 x_ 1) 6148914691236517205) + (andI .u64 x_ 6148914691236517205))) 3689348814741910323))) 4) + (IntKind.wrap .u64 ((andI .u64 (shrI .u64 (IntKind.wrap .u64 ((andI .u64 (shrI .u64 x_ 1) 6148914691236517205) + (andI .u64 x_ 6148914691236517205))) 2) 3689348814741910323) + (andI .u64 (IntKind.wrap .u64 ((andI .u64 (shrI .u64 x_ 1) 6148914691236517205) + (andI .u64 x_ 6148914691236517205))) 3689348814741910323)))))) rfl rfl rfl) ?_
  refine xo (e_bin rfl rfl (op_and _ _ _)) ?_
  refine xo (e_mv' (v := AV.int .u64 (andI .u64 (IntKind.wrap .u64 ((shrI .u64 (IntKind.wrap .u64 ((andI .u64 (shrI .u64 (IntKind.wrap .u64 ((andI .u64 (shrI .u64 x_ 1) 6148914691236517205) + (andI .u64 x_ 6148914691236517205))) 2) 3689348814741910323) + (andI .u64 (IntKind.wrap .u64 ((andI .u64 (shrI .u64 x_ 1) 6148914691236517205) + (andI .u64 x_ 6148914691236517205))) 3689348814741910323))) 4) + (IntKind.wrap .u64 ((andI .u64 (shrI .u64 (IntKind.wrap .u64 ((andI .u64 (shrI .u64 x_ 1) 6148914691236517205) + (andI .u64 x_ 6148914691236517205))) 2) 3689348814741910323) + (andI .u64 (IntKind.wrap .u64 ((andI .u64 (shrI .u64 x_ 1) 6148914691236517205) + (andI .u64 x_ 6148914691236517205))) 3689348814741910323))))) 1085102592571150095)) rfl) ?_
  refine ato_nil ?_
  refine atn_seq ?_
  refine at_seq (a := C37_10) (b := C37_11) ?_
  refine at_ops (l := O37_10) ?_
  refine xo (e_mv' (v := AV.int .u64 (andI .u64 (IntKind.wrap .u64 ((shrI .u64 (IntKind.wrap .u64 ((andI .u64 (shrI .u64 (IntKind.wrap .u64 ((andI .u64 (shrI .u64 x_ 1) 6148914691236517205) + (andI .u64 x_ 6148914691236517205))) 2) 3689348814741910323) + (andI .u64 (IntKind.wrap .u64 ((andI .u64 (shrI .u64 x_ 1) 6148914691236517205) + (andI .u64 x_ 6148914691236517205))) 3689348814741910323))) 4) + (IntKind.wrap .u64 ((andI .u64 (shrI .u64 (IntKind.wrap .u64 ((andI .u64 (shrI .u64 x_ 1) 6148914691236517205) + (andI .u64 x_ 6148914691236517205))) 2) 3689348814741910323) + (andI .u64 (IntKind.wrap .u64 ((andI .u64 (shrI .u64 x_ 1) 6148914691236517205) + (andI .u64 x_ 6148914691236517205))) 3689348814741910323))))) 1085102592571150095)) rfl) ?_
  refine xo (e_mv' (v := AV.int .u64 (andI .u64 (IntKind.wrap .u64 ((shrI .u64 (IntKind.wrap .u64 ((andI .u64 (shrI .u64 (IntKind.wrap .u64 ((andI .u64 (shrI .u64 x_ 1) 6148914691236517205) + (andI .u64 x_ 6148914691236517205))) 2) 3689348814741910323) + (andI .u64 (IntKind.wrap .u64 ((andI .u64 (shrI .u64 x_ 1) 6148914691236517205) + (andI .u64 x_ 6148914691236517205))) 3689348814741910323))) 4) + (IntKind.wrap .u64 ((andI .u64 (shrI .u64 (IntKind.wrap .u64 ((andI .u64 (shrI .u64 x_ 1) 6148914691236517205) + (andI .u64 x_ 6148914691236517205))) 2) 3689348814741910323) + (andI .u64 (IntKind.wrap .u64 ((andI .u64 (shrI .u64 x_ 1) 6148914691236517205) + (andI .u64 x_ 6148914691236517205))) 3689348814741910323))))) 1085102592571150095)) rfl) ?_
  refine xo (e_bin rfl rfl (op_shr _ _ _ _ (by decide))) ?_
  refine xo (e_bin (v := .int .u64 (IntKind.wrap .u64 ((andI .u64 (IntKind.wrap .u64 ((shrI .u64 (IntKind.wrap .u64 ((andI .u64 (shrI .u64 (IntKind.wrap .u64 ((andI .u64 (shrI .u64 x_ 1) 6148914691236517205) + (andI .u64 x_ 6148914691236517205))) 2) 3689348814741910323) + (andI .u64 (IntKind.wrap .u64 ((andI .u64 (shrI .u64 x_ 1) 6148914691236517205) + (andI .u64 x_ 6148914691236517205))) 3689348814741910323))) 4) + (IntKind.wrap .u64 ((andI .u64 (shrI .u64 (IntKind.wrap .u64 ((andI .u64 (shrI .u64 x_ 1) 6148914691236517205) + (andI .u64 x_ 6148914691236517205))) 2) 3689348814741910323) + (andI .u64 (IntKind.wrap .u64 ((andI .u64 (shrI .u64 x_ 1) 6148914691236517205) + (andI .u64 x_ 6148914691236517205))) 3689348814741910323))))) 1085102592571150095) + (shrI .u64 (andI .u64 (IntKind.wrap .u64 ((shrI .u64 (IntKind.wrap .u64 ((andI .u64 (shrI .u64 (IntKind.wrap .u64 ((andI .u64 (shrI .u64 x_ 1) 6148914691236517205) + (andI .u64 x_ 6148914691236517205))) 2) 3689348814741910323) + (andI .u64 (IntKind.wrap .u64 ((andI .u64 (shrI .u64 x_ 1) 6148914691236517205) + (andI .u64 x_ 6148914691236517205))) 3689348814741910323))) 4) + (IntKind.wrap .u64 ((andI .u64 (shrI .u64 (IntKind.wrap .u64 ((andI .u64 (shrI .u64 x_ 1) 6148914691236517205) + (andI .u64 x_ 6148914691236517205))) 2) 3689348814741910323) + (andI .u64 (IntKind.wrap .u64 ((andI .u64 (shrI .u64 x_ 1) 6148914691236517205) + (andI .u64 x_ 6148914691236517205))) 3689348814741910323))))) 1085102592571150095) 8)))) rfl rfl rfl) ?_
  refine xo (e_mv' (v := AV.int .u64 (IntKind.wrap .u64 ((andI .u64 (IntKind.wrap .u64 ((shrI .u64 (IntKind.wrap .u64 ((andI .u64 (shrI .u64 (IntKind.wrap .u64 ((andI .u64 (shrI .u64 x_ 1) 6148914691236517205) + (andI .u64 x_ 6148914691236517205))) 2) 3689348814741910323) + (andI .u64 (IntKind.wrap .u64 ((andI .u64 (shrI .u64 x_ 1) 6148914691236517205) + (andI .u64 x_ 6148914691236517205))) 3689348814741910323))) 4) + (IntKind.wrap .u64 ((andI .u64 (shrI .u64 (IntKind.wrap .u64 ((andI .u64 (shrI .u64 x_ 1) 6148914691236517205) + (andI .u64 x_ 6148914691236517205))) 2) 3689348814741910323) + (andI .u64 (IntKind.wrap .u64 ((andI .u64 (shrI .u64 x_ 1) 6148914691236517205) + (andI .u64 x_ 6148914691236517205))) 3689348814741910323))))) 1085102592571150095) + (shrI .u64 (andI .u64 (IntKind.wrap .u64 ((shrI .u64 (IntKind.wrap .u64 ((andI .u64 (shrI .u64 (IntKind.wrap .u64 ((andI .u64 (shrI .u64 x_ 1) 6148914691236517205) + (andI .u64 x_ 6148914691236517205))) 2) 3689348814741910323) + (andI .u64 (IntKind.wrap .u64 ((andI .u64 (shrI .u64 x_ 1) 6148914691236517205) + (andI .u64 x_ 6148914691236517205))) 3689348814741910323))) 4) + (IntKind.wrap .u64 ((andI .u64 (shrI .u64 (IntKind.wrap .u64 ((andI .u64 (shrI .u64 x_ 1) 6148914691236517205) + (andI .u64 x_ 6148914691236517205))) 2) 3689348814741910323) + (andI .u64 (IntKind.wrap .u64 ((andI .u64 (shrI .u64 x_ 1) 6148914691236517205) + (andI .u64 x_ 6148914691236517205))) 3689348814741910323))))) 1085102592571150095) 8)))) rfl) ?_
  refine ato_nil ?_
  refine atn_seq ?_
  refine at_seq (a := C37_12) (b := C37_13) ?_
  refine at_ops (l := O37_12) ?_
  refine xo (e_mv' (v := AV.int .u64 (IntKind.wrap .u64 ((andI .u64 (IntKind.wrap .u64 ((shrI .u64 (IntKind.wrap .u64 ((andI .u64 (shrI .u64 (IntKind.wrap .u64 ((andI .u64 (shrI .u64 x_ 1) 6148914691236517205) + (andI .u64 x_ 6148914691236517205))) 2) 3689348814741910323) + (andI .u64 (IntKind.wrap .u64 ((andI .u64 (shrI .u64 x_ 1) 6148914691236517205) + (andI .u64 x_ 6148914691236517205))) 3689348814741910323))) 4) + (IntKind.wrap .u64 ((andI .u64 (shrI .u64 (IntKind.wrap .u64 ((andI .u64 (shrI .u64 x_ 1) 6148914691236517205) + (andI .u64 x_ 6148914691236517205))) 2) 3689348814741910323) + (andI .u64 (IntKind.wrap .u64 ((andI .u64 (shrI .u64 x_ 1) 6148914691236517205) + (andI .u64 x_ 6148914691236517205))) 3689348814741910323))))) 1085102592571150095) + (shrI .u64 (andI .u64 (IntKind.wrap .u64 ((shrI .u64 (IntKind.wrap .u64 ((andI .u64 (shrI .u64 (IntKind.wrap .u64 ((andI .u64 (shrI .u64 x_ 1) 6148914691236517205) + (andI .u64 x_ 6148914691236517205))) 2) 3689348814741910323) + (andI .u64 (IntKind.wrap .u64 ((andI .u64 (shrI .u64 x_ 1) 6148914691236517205) + (andI .u64 x_ 6148914691236517205))) 3689348814741910323))) 4) + (IntKind.wrap .u64 ((andI .u64 (shrI .u64 (IntKind.wrap .u64 ((andI .u64 (shrI .u64 x_ 1) 6148914691236517205) + (andI .u64 x_ 6148914691236517205))) 2) 3689348814741910323) + (andI .u64 (IntKind.wrap .u64 ((andI .u64 (shrI .u64 x_ 1) 6148914691236517205) + (andI .u64 x_ 6148914691236517205))) 3689348814741910323))))) 1085102592571150095) 8)))) rfl) ?_
  refine xo (e_mv' (v := AV.int .u64 (IntKind.wrap .u64 ((andI .u64 (IntKind.wrap .u64 ((shrI .u64 (IntKind.wrap .u64 ((andI .u64 (shrI .u64 (IntKind.wrap .u64 ((andI .u64 (shrI .u64 x_ 1) 6148914691236517205) + (andI .u64 x_ 6148914691236517205))) 2) 3689348814741910323) + (andI .u64 (IntKind.wrap .u64 ((andI .u64 (shrI .u64 x_ 1) 6148914691236517205) + (andI .u64 x_ 6148914691236517205))) 3689348814741910323))) 4) + (IntKind.wrap .u64 ((andI .u64 (shrI .u64 (IntKind.wrap .u64 ((andI .u64 (shrI .u64 x_ 1) 6148914691236517205) + (andI .u64 x_ 6148914691236517205))) 2) 3689348814741910323) + (andI .u64 (IntKind.wrap .u64 ((andI .u64 (shrI .u64 x_ 1) 6148914691236517205) + (andI .u64 x_ 6148914691236517205))) 3689348814741910323))))) 1085102592571150095) + (shrI .u64 (andI .u64 (IntKind.wrap .u64 ((shrI .u64 (IntKind.wrap .u64 ((andI .u64 (shrI .u64 (IntKind.wrap .u64 ((andI .u64 (shrI .u64 x_ 1) 6148914691236517205) + (andI .u64 x_ 6148914691236517205))) 2) 3689348814741910323) + (andI .u64 (IntKind.wrap .u64 ((andI .u64 (shrI .u64 x_ 1) 6148914691236517205) + (andI .u64 x_ 6148914691236517205))) 3689348814741910323))) 4) + (IntKind.wrap .u64 ((andI .u64 (shrI .u64 (IntKind.wrap .u64 ((andI .u64 (shrI .u64 x_ 1) 6148914691236517205) + (andI .u64 x_ 6148914691236517205))) 2) 3689348814741910323) + (andI .u64 (IntKind.wrap .u64 ((andI .u64 (shrI .u64 x_ 1) 6148914691236517205) + (andI .u64 x_ 6148914691236517205))) 3689348814741910323))))) 1085102592571150095) 8)))) rfl) ?_
  refine xo (e_bin rfl rfl (op_shr _ _ _ _ (by decide))) ?_
  refine xo (e_bin (v := .int .u64 (IntKind.wrap .u64 ((IntKind.wrap .u64 ((andI .u64 (IntKind.wrap .u64 ((shrI .u64 (IntKind.wrap .u64 ((andI .u64 (shrI .u64 (IntKind.wrap .u64 ((andI .u64 (shrI .u64 x_ 1) 6148914691236517205) + (andI .u64 x_ 6148914691236517205))) 2) 3689348814741910323) + (andI .u64 (IntKind.wrap .u64 ((andI .u64 (shrI .u64 x_ 1) 6148914691236517205) + (andI .u64 x_ 6148914691236517205))) 3689348814741910323))) 4) + (IntKind.wrap .u64 ((andI .u64 (shrI .u64 (IntKind.wrap .u64 ((andI .u64 (shrI .u64 x_ 1) 6148914691236517205) + (andI .u64 x_ 6148914691236517205))) 2) 3689348814741910323) + (andI .u64 (IntKind.wrap .u64 ((andI .u64 (shrI .u64 x_ 1) 6148914691236517205) + (andI .u64 x_ 6148914691236517205))) 3689348814741910323))))) 1085102592571150095) + (shrI .u64 (andI .u64 (IntKind.wrap .u64 ((shrI .u64 (IntKind.wrap .u64 ((andI .u64 (shrI .u64 (IntKind.wrap .u64 ((andI .u64 (shrI .u64 x_ 1) 6148914691236517205) + (andI .u64 x_ 6148914691236517205))) 2) 3689348814741910323) + (andI .u64 (IntKind.wrap .u64 ((andI .u64 (shrI .u64 x_ 1) 6148914691236517205) + (andI .u64 x_ 6148914691236517205))) 3689348814741910323))) 4) + (IntKind.wrap .u64 ((andI .u64 (shrI .u64 (IntKind.wrap .u64 ((andI .u64 (shrI .u64 x_ 1) 6148914691236517205) + (andI .u64 x_ 6148914691236517205))) 2) 3689348814741910323) + (andI .u64 (IntKind.wrap .u64 ((andI .u64 (shrI .u64 x_ 1) 6148914691236517205) + (andI .u64 x_ 6148914691236517205))) 3689348814741910323))))) 1085102592571150095) 8))) + (shrI .u64 (IntKind.wrap .u64 ((andI .u64 (IntKind.wrap .u64 ((shrI .u64 (IntKind.wrap .u64 ((andI .u64 (shrI .u64 (IntKind.wrap .u64 ((andI .u64 (shrI .u64 x_ 1) 6148914691236517205) + (andI .u64 x_ 6148914691236517205))) 2) 3689348814741910323) + (andI .u64 (IntKind.wrap .u64 ((andI .u64 (shrI .u64 x_ 1) 6148914691236517205) + (andI .u64 x_ 6148914691236517205))) 3689348814741910323))) 4) + (IntKind.wrap .u64 ((andI .u64 (shrI .u64 (IntKind.wrap .u64 ((andI .u64 (shrI .u64 x_ 1) 6148914691236517205) + (andI .u64 x_ 6148914691236517205))) 2) 3689348814741910323) + (andI .u64 (IntKind.wrap .u64 ((andI .u64 (shrI .u64 x_ 1) 6148914691236517205) + (andI .u64 x_ 6148914691236517205))) 3689348814741910323))))) 1085102592571150095) + (shrI .u64 (andI .u64 (IntKind.wrap .u64 ((shrI .u64 (IntKind.wrap .u64 ((andI .u64 (shrI .u64 (IntKind.wrap .u64 ((andI .u64 (shrI .u64 x_ 1) 6148914691236517205) + (andI .u64 x_ 6148914691236517205))) 2) 3689348814741910323) + (andI .u64 (IntKind.wrap .u64 ((andI .u64 (shrI .u64 x_ 1) 6148914691236517205) + (andI .u64 x_ 6148914691236517205))) 3689348814741910323))) 4) + (IntKind.wrap .u64 ((andI .u64 (shrI .u64 (IntKind.wrap .u64 ((andI .u64 (shrI .u64 x_ 1) 6148914691236517205) + (andI .u64 x_ 6148914691236517205))) 2) 3689348814741910323) + (andI .u64 (IntKind.wrap .u64 ((andI .u64 (shrI .u64 x_ 1) 6148914691236517205) + (andI .u64 x_ 6148914691236517205))) 3689348814741910323))))) 1085102592571150095) 8))) 16)))) rfl rfl rfl) ?_
  refine xo (e_mv' (v := AV.int .u64 (IntKind.wrap .u64 ((IntKind.wrap .u64 ((andI .u64 (IntKind.wrap .u64 ((shrI .u64 (IntKind.wrap .u64 ((andI .u64 (shrI .u64 (IntKind.wrap .u64 ((andI .u64 (shrI .u64 x_ 1) 6148914691236517205) + (andI .u64 x_ 6148914691236517205))) 2) 3689348814741910323) + (andI .u64 (IntKind.wrap .u64 ((andI .u64 (shrI .u64 x_ 1) 6148914691236517205) + (andI .u64 x_ 6148914691236517205))) 3689348814741910323))) 4) + (IntKind.wrap .u64 ((andI .u64 (shrI .u64 (IntKind.wrap .u64 ((andI .u64 (shrI .u64 x_ 1) 6148914691236517205) + (andI .u64 x_ 6148914691236517205))) 2) 3689348814741910323) + (andI .u64 (IntKind.wrap .u64 ((andI .u64 (shrI .u64 x_ 1) 6148914691236517205) + (andI .u64 x_ 6148914691236517205))) 3689348814741910323))))) 1085102592571150095) + (shrI .u64 (andI .u64 (IntKind.wrap .u64 ((shrI .u64 (IntKind.wrap .u64 ((andI .u64 (shrI .u64 (IntKind.wrap .u64 ((andI .u64 (shrI .u64 x_ 1) 6148914691236517205) + (andI .u64 x_ 6148914691236517205))) 2) 3689348814741910323) + (andI .u64 (IntKind.wrap .u64 ((andI .u64 (shrI .u64 x_ 1) 6148914691236517205) + (andI .u64 x_ 6148914691236517205))) 3689348814741910323))) 4) + (IntKind.wrap .u64 ((andI .u64 (shrI .u64 (IntKind.wrap .u64 ((andI .u64 (shrI .u64 x_ 1) 6148914691236517205) + (andI .u64 x_ 6148914691236517205))) 2) 3689348814741910323) + (andI .u64 (IntKind.wrap .u64 ((andI .u64 (shrI .u64 x_ 1) 6148914691236517205) + (andI .u64 x_ 6148914691236517205))) 3689348814741910323))))) 1085102592571150095) 8))) + (shrI .u64 (IntKind.wrap .u64 ((andI .u64 (IntKind.wrap .u64 ((shrI .u64 (IntKind.wrap .u64 ((andI .u64 (shrI .u64 (IntKind.wrap .u64 ((andI .u64 (shrI .u64 x_ 1) 6148914691236517205) + (andI .u64 x_ 6148914691236517205))) 2) 3689348814741910323) + (andI .u64 (IntKind.wrap .u64 ((andI .u64 (shrI .u64 x_ 1) 6148914691236517205) + (andI .u64 x_ 6148914691236517205))) 3689348814741910323))) 4) + (IntKind.wrap .u64 ((andI .u64 (shrI .u64 (IntKind.wrap .u64 ((andI .u64 (shrI .u64 x_ 1) 6148914691236517205) + (andI .u64 x_ 6148914691236517205))) 2) 3689348814741910323) + (andI .u64 (IntKind.wrap .u64 ((andI .u64 (shrI .u64 x_ 1) 6148914691236517205) + (andI .u64 x_ 6148914691236517205))) 3689348814741910323))))) 1085102592571150095) + (shrI .u64 (andI .u64 (IntKind.wrap .u64 ((shrI .u64 (IntKind.wrap .u64 ((andI .u64 (shrI .u64 (IntKind.wrap .u64 ((andI .u64 (shrI .u64 x_ 1) 6148914691236517205) + (andI .u64 x_ 6148914691236517205))) 2) 3689348814741910323) + (andI .u64 (IntKind.wrap .u64 ((andI .u64 (shrI .u64 x_ 1) 6148914691236517205) + (andI .u64 x_ 6148914691236517205))) 3689348814741910323))) 4) + (IntKind.wrap .u64 ((andI .u64 (shrI .u64 (IntKind.wrap .u64 ((andI .u64 (shrI .u64 x_ 1) 6148914691236517205) + (andI .u64 x_ 6148914691236517205))) 2) 3689348814741910323) + (andI .u64 (IntKind.wrap .u64 ((andI .u64 (shrI .u64 x_ 1) 6148914691236517205) + (andI .u64 x_ 6148914691236517205))) 3689348814741910323))))) 1085102592571150095) 8))) 16)))) rfl) ?_
  refine ato_nil ?_
  refine atn_seq ?_
  refine at_seq (a := C37_14) (b := C37_15) ?_
  refine at_ops (l := O37_14) ?_
  refine xo (e_mv' (v := AV.int .u64 (IntKind.wrap .u64 ((IntKind.wrap .u64 ((andI .u64 (IntKind.wrap .u64 ((shrI .u64 (IntKind.wrap .u64 ((andI .u64 (shrI .u64 (IntKind.wrap .u64 ((andI .u64 (shrI .u64 x_ 1) 6148914691236517205) + (andI .u64 x_ 6148914691236517205))) 2) 3689348814741910323) + (andI .u64 (IntKind.wrap .u64 ((andI .u64 (shrI .u64 x_ 1) 6148914691236517205) + (andI .u64 x_ 6148914691236517205))) 3689348814741910323))) 4) + (IntKind.wrap .u64 ((andI .u64 (shrI .u64 (IntKind.wrap .u64 ((andI .u64 (shrI .u64 x_ 1) 6148914691236517205) + (andI .u64 x_ 6148914691236517205))) 2) 3689348814741910323) + (andI .u64 (IntKind.wrap .u64 ((andI .u64 (shrI .u64 x_ 1) 6148914691236517205) + (andI .u64 x_ 6148914691236517205))) 3689348814741910323))))) 1085102592571150095) + (shrI .u64 (andI .u64 (IntKind.wrap .u64 ((shrI .u64 (IntKind.wrap .u64 ((andI .u64 (shrI .u64 (IntKind.wrap .u64 ((andI .u64 (shrI .u64 x_ 1) 6148914691236517205) + (andI .u64 x_ 6148914691236517205))) 2) 3689348814741910323) + (andI .u64 (IntKind.wrap .u64 ((andI .u64 (shrI .u64 x_ 1) 6148914691236517205) + (andI .u64 x_ 6148914691236517205))) 3689348814741910323))) 4) + (IntKind.wrap .u64 ((andI .u64 (shrI .u64 (IntKind.wrap .u64 ((andI .u64 (shrI .u64 x_ 1) 6148914691236517205) + (andI .u64 x_ 6148914691236517205))) 2) 3689348814741910323) + (andI .u64 (IntKind.wrap .u64 ((andI .u64 (shrI .u64 x_ 1) 6148914691236517205) + (andI .u64 x_ 6148914691236517205))) 3689348814741910323))))) 1085102592571150095) 8))) + (shrI .u64 (IntKind.wrap .u64 ((andI .u64 (IntKind.wrap .u64 ((shrI .u64 (IntKind.wrap .u64 ((andI .u64 (shrI .u64 (IntKind.wrap .u64 ((andI .u64 (shrI .u64 x_ 1) 6148914691236517205) + (andI .u64 x_ 6148914691236517205))) 2) 3689348814741910323) + (andI .u64 (IntKind.wrap .u64 ((andI .u64 (shrI .u64 x_ 1) 6148914691236517205) + (andI .u64 x_ 6148914691236517205))) 3689348814741910323))) 4) + (IntKind.wrap .u64 ((andI .u64 (shrI .u64 (IntKind.wrap .u64 ((andI .u64 (shrI .u64 x_ 1) 6148914691236517205) + (andI .u64 x_ 6148914691236517205))) 2) 3689348814741910323) + (andI .u64 (IntKind.wrap .u64 ((andI .u64 (shrI .u64 x_ 1) 6148914691236517205) + (andI .u64 x_ 6148914691236517205))) 3689348814741910323))))) 1085102592571150095) + (shrI .u64 (andI .u64 (IntKind.wrap .u64 ((shrI .u64 (IntKind.wrap .u64 ((andI .u64 (shrI .u64 (IntKind.wrap .u64 ((andI .u64 (shrI .u64 x_ 1) 6148914691236517205) + (andI .u64 x_ 6148914691236517205))) 2) 3689348814741910323) + (andI .u64 (IntKind.wrap .u64 ((andI .u64 (shrI .u64 x_ 1) 6148914691236517205) + (andI .u64 x_ 6148914691236517205))) 3689348814741910323))) 4) + (IntKind.wrap .u64 ((andI .u64 (shrI .u64 (IntKind.wrap .u64 ((andI .u64 (shrI .u64 x_ 1) 6148914691236517205) + (andI .u64 x_ 6148914691236517205))) 2) 3689348814741910323) + (andI .u64 (IntKind.wrap .u64 ((andI .u64 (shrI .u64 x_ 1) 6148914691236517205) + (andI .u64 x_ 6148914691236517205))) 3689348814741910323))))) 1085102592571150095) 8))) 16)))) rfl) ?_
  refine xo (e_mv' (v := AV.int .u64 (IntKind.wrap .u64 ((IntKind.wrap .u64 ((andI .u64 (IntKind.wrap .u64 ((shrI .u64 (IntKind.wrap .u64 ((andI .u64 (shrI .u64 (IntKind.wrap .u64 ((andI .u64 (shrI .u64 x_ 1) 6148914691236517205) + (andI .u64 x_ 6148914691236517205))) 2) 3689348814741910323) + (andI .u64 (IntKind.wrap .u64 ((andI .u64 (shrI .u64 x_ 1) 6148914691236517205) + (andI .u64 x_ 6148914691236517205))) 3689348814741910323))) 4) + (IntKind.wrap .u64 ((andI .u64 (shrI .u64 (IntKind.wrap .u64 ((andI .u64 (shrI .u64 x_ 1) 6148914691236517205) + (andI .u64 x_ 6148914691236517205))) 2) 3689348814741910323) + (andI .u64 (IntKind.wrap .u64 ((andI .u64 (shrI .u64 x_ 1) 6148914691236517205) + (andI .u64 x_ 6148914691236517205))) 3689348814741910323))))) 1085102592571150095) + (shrI .u64 (andI .u64 (IntKind.wrap .u64 ((shrI .u64 (IntKind.wrap .u64 ((andI .u64 (shrI .u64 (IntKind.wrap .u64 ((andI .u64 (shrI .u64 x_ 1) 6148914691236517205) + (andI .u64 x_ 6148914691236517205))) 2) 3689348814741910323) + (andI .u64 (IntKind.wrap .u64 ((andI .u64 (shrI .u64 x_ 1) 6148914691236517205) + (andI .u64 x_ 6148914691236517205))) 3689348814741910323))) 4) + (IntKind.wrap .u64 ((andI .u64 (shrI .u64 (IntKind.wrap .u64 ((andI .u64 (shrI .u64 x_ 1) 6148914691236517205) + (andI .u64 x_ 6148914691236517205))) 2) 3689348814741910323) + (andI .u64 (IntKind.wrap .u64 ((andI .u64 (shrI .u64 x_ 1) 6148914691236517205) + (andI .u64 x_ 6148914691236517205))) 3689348814741910323))))) 1085102592571150095) 8))) + (shrI .u64 (IntKind.wrap .u64 ((andI .u64 (IntKind.wrap .u64 ((shrI .u64 (IntKind.wrap .u64 ((andI .u64 (shrI .u64 (IntKind.wrap .u64 ((andI .u64 (shrI .u64 x_ 1) 6148914691236517205) + (andI .u64 x_ 6148914691236517205))) 2) 3689348814741910323) + (andI .u64 (IntKind.wrap .u64 ((andI .u64 (shrI .u64 x_ 1) 6148914691236517205) + (andI .u64 x_ 6148914691236517205))) 3689348814741910323))) 4) + (IntKind.wrap .u64 ((andI .u64 (shrI .u64 (IntKind.wrap .u64 ((andI .u64 (shrI .u64 x_ 1) 6148914691236517205) + (andI .u64 x_ 6148914691236517205))) 2) 3689348814741910323) + (andI .u64 (IntKind.wrap .u64 ((andI .u64 (shrI .u64 x_ 1) 6148914691236517205) + (andI .u64 x_ 6148914691236517205))) 3689348814741910323))))) 1085102592571150095) + (shrI .u64 (andI .u64 (IntKind.wrap .u64 ((shrI .u64 (IntKind.wrap .u64 ((andI .u64 (shrI .u64 (IntKind.wrap .u64 ((andI .u64 (shrI .u64 x_ 1) 6148914691236517205) + (andI .u64 x_ 6148914691236517205))) 2) 3689348814741910323) + (andI .u64 (IntKind.wrap .u64 ((andI .u64 (shrI .u64 x_ 1) 6148914691236517205) + (andI .u64 x_ 6148914691236517205))) 3689348814741910323))) 4) + (IntKind.wrap .u64 ((andI .u64 (shrI .u64 (IntKind.wrap .u64 ((andI .u64 (shrI .u64 x_ 1) 6148914691236517205) + (andI .u64 x_ 6148914691236517205))) 2) 3689348814741910323) + (andI .u64 (IntKind.wrap .u64 ((andI .u64 (shrI .u64 x_ 1) 6148914691236517205) + (andI .u64 x_ 6148914691236517205))) 3689348814741910323))))) 1085102592571150095) 8))) 16)))) rfl) ?_
  refine xo (e_bin rfl rfl (op_shr _ _ _ _ (by decide))) ?_
  refine xo (e_bin (v := .int .u64 (IntKind.wrap .u64 ((IntKind.wrap .u64 ((IntKind.wrap .u64 ((andI .u64 (IntKind.wrap .u64 ((shrI .u64 (IntKind.wrap .u64 ((andI .u64 (shrI .u64 (IntKind.wrap .u64 ((andI .u64 (shrI .u64 x_ 1) 6148914691236517205) + (andI .u64 x_ 6148914691236517205))) 2) 3689348814741910323) + (andI .u64 (IntKind.wrap .u64 ((andI .u64 (shrI .u64 x_ 1) 6148914691236517205) + (andI .u64 x_ 6148914691236517205))) 3689348814741910323))) 4) + (IntKind.wrap .u64 ((andI .u64 (shrI .u64 (IntKind.wrap .u64 ((andI .u64 (shrI .u64 x_ 1) 6148914691236517205) + (andI .u64 x_ 6148914691236517205))) 2) 3689348814741910323) + (andI .u64 (IntKind.wrap .u64 ((andI .u64 (shrI .u64 x_ 1) 6148914691236517205) + (andI .u64 x_ 6148914691236517205))) 3689348814741910323))))) 1085102592571150095) + (shrI .u64 (andI .u64 (IntKind.wrap .u64 ((shrI .u64 (IntKind.wrap .u64 ((andI .u64 (shrI .u64 (IntKind.wrap .u64 ((andI .u64 (shrI .u64 x_ 1) 6148914691236517205) + (andI .u64 x_ 6148914691236517205))) 2) 3689348814741910323) + (andI .u64 (IntKind.wrap .u64 ((andI .u64 (shrI .u64 x_ 1) 6148914691236517205) + (andI .u64 x_ 6148914691236517205))) 3689348814741910323))) 4) + (IntKind.wrap .u64 ((andI .u64 (shrI .u64 (IntKind.wrap .u64 ((andI .u64 (shrI .u64 x_ 1) 6148914691236517205) + (andI .u64 x_ 6148914691236517205))) 2) 3689348814741910323) + (andI .u64 (IntKind.wrap .u64 ((andI .u64 (shrI .u64 x_ 1) 6148914691236517205) + (andI .u64 x_ 6148914691236517205))) 3689348814741910323))))) 1085102592571150095) 8))) + (shrI .u64 (IntKind.wrap .u64 ((andI .u64 (IntKind.wrap .u64 ((shrI .u64 (IntKind.wrap .u64 ((andI .u64 (shrI .u64 (IntKind.wrap .u64 ((andI .u64 (shrI .u64 x_ 1) 6148914691236517205) + (andI .u64 x_ 6148914691236517205))) 2) 3689348814741910323) + (andI .u64 (IntKind.wrap .u64 ((andI .u64 (shrI .u64 x_ 1) 6148914691236517205) + (andI .u64 x_ 6148914691236517205))) 3689348814741910323))) 4) + (IntKind.wrap .u64 ((andI .u64 (shrI .u64 (IntKind.wrap .u64 ((andI .u64 (shrI .u64 x_ 1) 6148914691236517205) + (andI .u64 x_ 6148914691236517205))) 2) 3689348814741910323) + (andI .u64 (IntKind.wrap .u64 ((andI .u64 (shrI .u64 x_ 1) 6148914691236517205) + (andI .u64 x_ 6148914691236517205))) 3689348814741910323))))) 1085102592571150095) + (shrI .u64 (andI .u64 (IntKind.wrap .u64 ((shrI .u64 (IntKind.wrap .u64 ((andI .u64 (shrI .u64 (IntKind.wrap .u64 ((andI .u64 (shrI .u64 x_ 1) 6148914691236517205) + (andI .u64 x_ 6148914691236517205))) 2) 3689348814741910323) + (andI .u64 (IntKind.wrap .u64 ((andI .u64 (shrI .u64 x_ 1) 6148914691236517205) + (andI .u64 x_ 6148914691236517205))) 3689348814741910323))) 4) + (IntKind.wrap .u64 ((andI .u64 (shrI .u64 (IntKind.wrap .u64 ((andI .u64 (shrI .u64 x_ 1) 6148914691236517205) + (andI .u64 x_ 6148914691236517205))) 2) 3689348814741910323) + (andI .u64 (IntKind.wrap .u64 ((andI .u64 (shrI .u64 x_ 1) 6148914691236517205) + (andI .u64 x_ 6148914691236517205))) 3689348814741910323))))) 1085102592571150095) 8))) 16))) + (shrI .u64 (IntKind.wrap .u64 ((IntKind.wrap .u64 ((andI .u64 (IntKind.wrap .u64 ((shrI .u64 (IntKind.wrap .u64 ((andI .u64 (shrI .u64 (IntKind.wrap .u64 ((andI .u64 (shrI .u64 x_ 1) 6148914691236517205) + (andI .u64 x_ 6148914691236517205))) 2) 3689348814741910323) + (andI .u64 (IntKind.wrap .u64 ((andI .u64 (shrI .u64 x_ 1) 6148914691236517205) + (andI .u64 x_ 6148914691236517205))) 3689348814741910323))) 4) + (IntKind.wrap .u64 ((andI .u64 (shrI .u64 (IntKind.wrap .u64 ((andI .u64 (shrI .u64 x_ 1) 6148914691236517205) + (andI .u64 x_ 6148914691236517205))) 2) 3689348814741910323) + (andI .u64 (IntKind.wrap .u64 ((andI .u64 (shrI .u64 x_ 1) 6148914691236517205) + (andI .u64 x_ 6148914691236517205))) 3689348814741910323))))) 1085102592571150095) + (shrI .u64 (andI .u64 (IntKind.wrap .u64 ((shrI .u64 (IntKind.wrap .u64 ((andI .u64 (shrI .u64 (IntKind.wrap .u64 ((andI .u64 (shrI .u64 x_ 1) 6148914691236517205) + (andI .u64 x_ 6148914691236517205))) 2) 3689348814741910323) + (andI .u64 (IntKind.wrap .u64 ((andI .u64 (shrI .u64 x_ 1) 6148914691236517205) + (andI .u64 x_ 6148914691236517205))) 3689348814741910323))) 4) + (IntKind.wrap .u64 ((andI .u64 (shrI .u64 (IntKind.wrap .u64 ((andI .u64 (shrI .u64 x_ 1) 6148914691236517205) + (andI .u64 x_ 6148914691236517205))) 2) 3689348814741910323) + (andI .u64 (IntKind.wrap .u64 ((andI .u64 (shrI .u64 x_ 1) 6148914691236517205) + (andI .u64 x_ 6148914691236517205))) 3689348814741910323))))) 1085102592571150095) 8))) + (shrI .u64 (IntKind.wrap .u64 ((andI .u64 (IntKind.wrap .u64 ((shrI .u64 (IntKind.wrap .u64 ((andI .u64 (shrI .u64 (IntKind.wrap .u64 ((andI .u64 (shrI .u64 x_ 1) 6148914691236517205) + (andI .u64 x_ 6148914691236517205))) 2) 3689348814741910323) + (andI .u64 (IntKind.wrap .u64 ((andI .u64 (shrI .u64 x_ 1) 6148914691236517205) + (andI .u64 x_ 6148914691236517205))) 3689348814741910323))) 4) + (IntKind.wrap .u64 ((andI .u64 (shrI .u64 (IntKind.wrap .u64 ((andI .u64 (shrI .u64 x_ 1) 6148914691236517205) + (andI .u64 x_ 6148914691236517205))) 2) 3689348814741910323) + (andI .u64 (IntKind.wrap .u64 ((andI .u64 (shrI .u64 x_ 1) 6148914691236517205) + (andI .u64 x_ 6148914691236517205))) 3689348814741910323))))) 1085102592571150095) + (shrI .u64 (andI .u64 (IntKind.wrap .u64 ((shrI .u64 (IntKind.wrap .u64 ((andI .u64 (shrI .u64 (IntKind.wrap .u64 ((andI .u64 (shrI .u64 x_ 1) 6148914691236517205) + (andI .u64 x_ 6148914691236517205))) 2) 3689348814741910323) + (andI .u64 (IntKind.wrap .u64 ((andI .u64 (shrI .u64 x_ 1) 6148914691236517205) + (andI .u64 x_ 6148914691236517205))) 3689348814741910323))) 4) + (IntKind.wrap .u64 ((andI .u64 (shrI .u64 (IntKind.wrap .u64 ((andI .u64 (shrI .u64 x_ 1) 6148914691236517205) + (andI .u64 x_ 6148914691236517205))) 2) 3689348814741910323) + (andI .u64 (IntKind.wrap .u64 ((andI .u64 (shrI .u64 x_ 1) 6148914691236517205) + (andI .u64 x_ 6148914691236517205))) 3689348814741910323))))) 1085102592571150095) 8))) 16))) 32)))) rfl rfl rfl) ?_
  refine xo (e_mv' (v := AV.int .u64 (IntKind.wrap .u64 ((IntKind.wrap .u64 ((IntKind.wrap .u64 ((andI .u64 (IntKind.wrap .u64 ((shrI .u64 (IntKind.wrap .u64 ((andI .u64 (shrI .u64 (IntKind.wrap .u64 ((andI .u64 (shrI .u64 x_ 1) 6148914691236517205) + (andI .u64 x_ 6148914691236517205))) 2) 3689348814741910323) + (andI .u64 (IntKind.wrap .u64 ((andI .u64 (shrI .u64 x_ 1) 6148914691236517205) + (andI .u64 x_ 6148914691236517205))) 3689348814741910323))) 4) + (IntKind.wrap .u64 ((andI .u64 (shrI .u64 (IntKind.wrap .u64 ((andI .u64 (shrI .u64 x_ 1) 6148914691236517205) + (andI .u64 x_ 6148914691236517205))) 2) 3689348814741910323) + (andI .u64 (IntKind.wrap .u64 ((andI .u64 (shrI .u64 x_ 1) 6148914691236517205) + (andI .u64 x_ 6148914691236517205))) 3689348814741910323))))) 1085102592571150095) + (shrI .u64 (andI .u64 (IntKind.wrap .u64 ((shrI .u64 (IntKind.wrap .u64 ((andI .u64 (shrI .u64 (IntKind.wrap .u64 ((andI .u64 (shrI .u64 x_ 1) 6148914691236517205) + (andI .u64 x_ 6148914691236517205))) 2) 3689348814741910323) + (andI .u64 (IntKind.wrap .u64 ((andI .u64 (shrI .u64 x_ 1) 6148914691236517205) + (andI .u64 x_ 6148914691236517205))) 3689348814741910323))) 4) + (IntKind.wrap .u64 ((andI .u64 (shrI .u64 (IntKind.wrap .u64 ((andI .u64 (shrI .u64 x_ 1) 6148914691236517205) + (andI .u64 x_ 6148914691236517205))) 2) 3689348814741910323) + (andI .u64 (IntKind.wrap .u64 ((andI .u64 (shrI .u64 x_ 1) 6148914691236517205) + (andI .u64 x_ 6148914691236517205))) 3689348814741910323))))) 1085102592571150095) 8))) + (shrI .u64 (IntKind.wrap .u64 ((andI .u64 (IntKind.wrap .u64 ((shrI .u64 (IntKind.wrap .u64 ((andI .u64 (shrI .u64 (IntKind.wrap .u64 ((andI .u64 (shrI .u64 x_ 1) 6148914691236517205) + (andI .u64 x_ 6148914691236517205))) 2) 3689348814741910323) + (andI .u64 (IntKind.wrap .u64 ((andI .u64 (shrI .u64 x_ 1) 6148914691236517205) + (andI .u64 x_ 6148914691236517205))) 3689348814741910323))) 4) + (IntKind.wrap .u64 ((andI .u64 (shrI .u64 (IntKind.wrap .u64 ((andI .u64 (shrI .u64 x_ 1) 6148914691236517205) + (andI .u64 x_ 6148914691236517205))) 2) 3689348814741910323) + (andI .u64 (IntKind.wrap .u64 ((andI .u64 (shrI .u64 x_ 1) 6148914691236517205) + (andI .u64 x_ 6148914691236517205))) 3689348814741910323))))) 1085102592571150095) + (shrI .u64 (andI .u64 (IntKind.wrap .u64 ((shrI .u64 (IntKind.wrap .u64 ((andI .u64 (shrI .u64 (IntKind.wrap .u64 ((andI .u64 (shrI .u64 x_ 1) 6148914691236517205) + (andI .u64 x_ 6148914691236517205))) 2) 3689348814741910323) + (andI .u64 (IntKind.wrap .u64 ((andI .u64 (shrI .u64 x_ 1) 6148914691236517205) + (andI .u64 x_ 6148914691236517205))) 3689348814741910323))) 4) + (IntKind.wrap .u64 ((andI .u64 (shrI .u64 (IntKind.wrap .u64 ((andI .u64 (shrI .u64 x_ 1) 6148914691236517205) + (andI .u64 x_ 6148914691236517205))) 2) 3689348814741910323) + (andI .u64 (IntKind.wrap .u64 ((andI .u64 (shrI .u64 x_ 1) 6148914691236517205) + (andI .u64 x_ 6148914691236517205))) 3689348814741910323))))) 1085102592571150095) 8))) 16))) + (shrI .u64 (IntKind.wrap .u64 ((IntKind.wrap .u64 ((andI .u64 (IntKind.wrap .u64 ((shrI .u64 (IntKind.wrap .u64 ((andI .u64 (shrI .u64 (IntKind.wrap .u64 ((andI .u64 (shrI .u64 x_ 1) 6148914691236517205) + (andI .u64 x_ 6148914691236517205))) 2) 3689348814741910323) + (andI .u64 (IntKind.wrap .u64 ((andI .u64 (shrI .u64 x_ 1) 6148914691236517205) + (andI .u64 x_ 6148914691236517205))) 3689348814741910323))) 4) + (IntKind.wrap .u64 ((andI .u64 (shrI .u64 (IntKind.wrap .u64 ((andI .u64 (shrI .u64 x_ 1) 6148914691236517205) + (andI .u64 x_ 6148914691236517205))) 2) 3689348814741910323) + (andI .u64 (IntKind.wrap .u64 ((andI .u64 (shrI .u64 x_ 1) 6148914691236517205) + (andI .u64 x_ 6148914691236517205))) 3689348814741910323))))) 1085102592571150095) + (shrI .u64 (andI .u64 (IntKind.wrap .u64 ((shrI .u64 (IntKind.wrap .u64 ((andI .u64 (shrI .u64 (IntKind.wrap .u64 ((andI .u64 (shrI .u64 x_ 1) 6148914691236517205) + (andI .u64 x_ 6148914691236517205))) 2) 3689348814741910323) + (andI .u64 (IntKind.wrap .u64 ((andI .u64 (shrI .u64 x_ 1) 6148914691236517205) + (andI .u64 x_ 6148914691236517205))) 3689348814741910323))) 4) + (IntKind.wrap .u64 ((andI .u64 (shrI .u64 (IntKind.wrap .u64 ((andI .u64 (shrI .u64 x_ 1) 6148914691236517205) + (andI .u64 x_ 6148914691236517205))) 2) 3689348814741910323) + (andI .u64 (IntKind.wrap .u64 ((andI .u64 (shrI .u64 x_ 1) 6148914691236517205) + (andI .u64 x_ 6148914691236517205))) 3689348814741910323))))) 1085102592571150095) 8))) + (shrI .u64 (IntKind.wrap .u64 ((andI .u64 (IntKind.wrap .u64 ((shrI .u64 (IntKind.wrap .u64 ((andI .u64 (shrI .u64 (IntKind.wrap .u64 ((andI .u64 (shrI .u64 x_ 1) 6148914691236517205) + (andI .u64 x_ 6148914691236517205))) 2) 3689348814741910323) + (andI .u64 (IntKind.wrap .u64 ((andI .u64 (shrI .u64 x_ 1) 6148914691236517205) + (andI .u64 x_ 6148914691236517205))) 3689348814741910323))) 4) + (IntKind.wrap .u64 ((andI .u64 (shrI .u64 (IntKind.wrap .u64 ((andI .u64 (shrI .u64 x_ 1) 6148914691236517205) + (andI .u64 x_ 6148914691236517205))) 2) 3689348814741910323) + (andI .u64 (IntKind.wrap .u64 ((andI .u64 (shrI .u64 x_ 1) 6148914691236517205) + (andI .u64 x_ 6148914691236517205))) 3689348814741910323))))) 1085102592571150095) + (shrI .u64 (andI .u64 (IntKind.wrap .u64 ((shrI .u64 (IntKind.wrap .u64 ((andI .u64 (shrI .u64 (IntKind.wrap .u64 ((andI .u64 (shrI .u64 x_ 1) 6148914691236517205) + (andI .u64 x_ 6148914691236517205))) 2) 3689348814741910323) + (andI .u64 (IntKind.wrap .u64 ((andI .u64 (shrI .u64 x_ 1) 6148914691236517205) + (andI .u64 x_ 6148914691236517205))) 3689348814741910323))) 4) + (IntKind.wrap .u64 ((andI .u64 (shrI .u64 (IntKind.wrap .u64 ((andI .u64 (shrI .u64 x_ 1) 6148914691236517205) + (andI .u64 x_ 6148914691236517205))) 2) 3689348814741910323) + (andI .u64 (IntKind.wrap .u64 ((andI .u64 (shrI .u64 x_ 1) 6148914691236517205) + (andI .u64 x_ 6148914691236517205))) 3689348814741910323))))) 1085102592571150095) 8))) 16))) 32)))) rfl) ?_
  refine ato_nil ?_
  refine atn_seq ?_
  refine at_seq (a := C37_16) (b := C37_17) ?_
  refine at_ops (l := O37_16) ?_
  refine xo (e_mv' (v := AV.int .u64 (IntKind.wrap .u64 ((IntKind.wrap .u64 ((IntKind.wrap .u64 ((andI .u64 (IntKind.wrap .u64 ((shrI .u64 (IntKind.wrap .u64 ((andI .u64 (shrI .u64 (IntKind.wrap .u64 ((andI .u64 (shrI .u64 x_ 1) 6148914691236517205) + (andI .u64 x_ 6148914691236517205))) 2) 3689348814741910323) + (andI .u64 (IntKind.wrap .u64 ((andI .u64 (shrI .u64 x_ 1) 6148914691236517205) + (andI .u64 x_ 6148914691236517205))) 3689348814741910323))) 4) + (IntKind.wrap .u64 ((andI .u64 (shrI .u64 (IntKind.wrap .u64 ((andI .u64 (shrI .u64 x_ 1) 6148914691236517205) + (andI .u64 x_ 6148914691236517205))) 2) 3689348814741910323) + (andI .u64 (IntKind.wrap .u64 ((andI .u64 (shrI .u64 x_ 1) 6148914691236517205) + (andI .u64 x_ 6148914691236517205))) 3689348814741910323))))) 1085102592571150095) + (shrI .u64 (andI .u64 (IntKind.wrap .u64 ((shrI .u64 (IntKind.wrap .u64 ((andI .u64 (shrI .u64 (IntKind.wrap .u64 ((andI .u64 (shrI .u64 x_ 1) 6148914691236517205) + (andI .u64 x_ 6148914691236517205))) 2) 3689348814741910323) + (andI .u64 (IntKind.wrap .u64 ((andI .u64 (shrI .u64 x_ 1) 6148914691236517205) + (andI .u64 x_ 6148914691236517205))) 3689348814741910323))) 4) + (IntKind.wrap .u64 ((andI .u64 (shrI .u64 (IntKind.wrap .u64 ((andI .u64 (shrI .u64 x_ 1) 6148914691236517205) + (andI .u64 x_ 6148914691236517205))) 2) 3689348814741910323) + (andI .u64 (IntKind.wrap .u64 ((andI .u64 (shrI .u64 x_ 1) 6148914691236517205) + (andI .u64 x_ 6148914691236517205))) 3689348814741910323))))) 1085102592571150095) 8))) + (shrI .u64 (IntKind.wrap .u64 ((andI .u64 (IntKind.wrap .u64 ((shrI .u64 (IntKind.wrap .u64 ((andI .u64 (shrI .u64 (IntKind.wrap .u64 ((andI .u64 (shrI .u64 x_ 1) 6148914691236517205) + (andI .u64 x_ 6148914691236517205))) 2) 3689348814741910323) + (andI .u64 (IntKind.wrap .u64 ((andI .u64 (shrI .u64 x_ 1) 6148914691236517205) + (andI .u64 x_ 6148914691236517205))) 3689348814741910323))) 4) + (IntKind.wrap .u64 ((andI .u64 (shrI .u64 (IntKind.wrap .u64 ((andI .u64 (shrI .u64 x_ 1) 6148914691236517205) + (andI .u64 x_ 6148914691236517205))) 2) 3689348814741910323) + (andI .u64 (IntKind.wrap .u64 ((andI .u64 (shrI .u64 x_ 1) 6148914691236517205) + (andI .u64 x_ 6148914691236517205))) 3689348814741910323))))) 1085102592571150095) + (shrI .u64 (andI .u64 (IntKind.wrap .u64 ((shrI .u64 (IntKind.wrap .u64 ((andI .u64 (shrI .u64 (IntKind.wrap .u64 ((andI .u64 (shrI .u64 x_ 1) 6148914691236517205) + (andI .u64 x_ 6148914691236517205))) 2) 3689348814741910323) + (andI .u64 (IntKind.wrap .u64 ((andI .u64 (shrI .u64 x_ 1) 6148914691236517205) + (andI .u64 x_ 6148914691236517205))) 3689348814741910323))) 4) + (IntKind.wrap .u64 ((andI .u64 (shrI .u64 (IntKind.wrap .u64 ((andI .u64 (shrI .u64 x_ 1) 6148914691236517205) + (andI .u64 x_ 6148914691236517205))) 2) 3689348814741910323) + (andI .u64 (IntKind.wrap .u64 ((andI .u64 (shrI .u64 x_ 1) 6148914691236517205) + (andI .u64 x_ 6148914691236517205))) 3689348814741910323))))) 1085102592571150095) 8))) 16))) + (shrI .u64 (IntKind.wrap .u64 ((IntKind.wrap .u64 ((andI .u64 (IntKind.wrap .u64 ((shrI .u64 (IntKind.wrap .u64 ((andI .u64 (shrI .u64 (IntKind.wrap .u64 ((andI .u64 (shrI .u64 x_ 1) 6148914691236517205) + (andI .u64 x_ 6148914691236517205))) 2) 3689348814741910323) + (andI .u64 (IntKind.wrap .u64 ((andI .u64 (shrI .u64 x_ 1) 6148914691236517205) + (andI .u64 x_ 6148914691236517205))) 3689348814741910323))) 4) + (IntKind.wrap .u64 ((andI .u64 (shrI .u64 (IntKind.wrap .u64 ((andI .u64 (shrI .u64 x_ 1) 6148914691236517205) + (andI .u64 x_ 6148914691236517205))) 2) 3689348814741910323) + (andI .u64 (IntKind.wrap .u64 ((andI .u64 (shrI .u64 x_ 1) 6148914691236517205) + (andI .u64 x_ 6148914691236517205))) 3689348814741910323))))) 1085102592571150095) + (shrI .u64 (andI .u64 (IntKind.wrap .u64 ((shrI .u64 (IntKind.wrap .u64 ((andI .u64 (shrI .u64 (IntKind.wrap .u64 ((andI .u64 (shrI .u64 x_ 1) 6148914691236517205) + (andI .u64 x_ 6148914691236517205))) 2) 3689348814741910323) + (andI .u64 (IntKind.wrap .u64 ((andI .u64 (shrI .u64 x_ 1) 6148914691236517205) + (andI .u64 x_ 6148914691236517205))) 3689348814741910323))) 4) + (IntKind.wrap .u64 ((andI .u64 (shrI .u64 (IntKind.wrap .u64 ((andI .u64 (shrI .u64 x_ 1) 6148914691236517205) + (andI .u64 x_ 6148914691236517205))) 2) 3689348814741910323) + (andI .u64 (IntKind.wrap .u64 ((andI .u64 (shrI .u64 x_ 1) 6148914691236517205) + (andI .u64 x_ 6148914691236517205))) 3689348814741910323))))) 1085102592571150095) 8))) + (shrI .u64 (IntKind.wrap .u64 ((andI .u64 (IntKind.wrap .u64 ((shrI .u64 (IntKind.wrap .u64 ((andI .u64 (shrI .u64 (IntKind.wrap .u64 ((andI .u64 (shrI .u64 x_ 1) 6148914691236517205) + (andI .u64 x_ 6148914691236517205))) 2) 3689348814741910323) + (andI .u64 (IntKind.wrap .u64 ((andI .u64 (shrI .u64 x_ 1) 6148914691236517205) + (andI .u64 x_ 6148914691236517205))) 3689348814741910323))) 4) + (IntKind.wrap .u64 ((andI .u64 (shrI .u64 (IntKind.wrap .u64 ((andI .u64 (shrI .u64 x_ 1) 6148914691236517205) + (andI .u64 x_ 6148914691236517205))) 2) 3689348814741910323) + (andI .u64 (IntKind.wrap .u64 ((andI .u64 (shrI .u64 x_ 1) 6148914691236517205) + (andI .u64 x_ 6148914691236517205))) 3689348814741910323))))) 1085102592571150095) + (shrI .u64 (andI .u64 (IntKind.wrap .u64 ((shrI .u64 (IntKind.wrap .u64 ((andI .u64 (shrI .u64 (IntKind.wrap .u64 ((andI .u64 (shrI .u64 x_ 1) 6148914691236517205) + (andI .u64 x_ 6148914691236517205))) 2) 3689348814741910323) + (andI .u64 (IntKind.wrap .u64 ((andI .u64 (shrI .u64 x_ 1) 6148914691236517205) + (andI .u64 x_ 6148914691236517205))) 3689348814741910323))) 4) + (IntKind.wrap .u64 ((andI .u64 (shrI .u64 (IntKind.wrap .u64 ((andI .u64 (shrI .u64 x_ 1) 6148914691236517205) + (andI .u64 x_ 6148914691236517205))) 2) 3689348814741910323) + (andI .u64 (IntKind.wrap .u64 ((andI .u64 (shrI .u64 x_ 1) 6148914691236517205) + (andI .u64 x_ 6148914691236517205))) 3689348814741910323))))) 1085102592571150095) 8))) 16))) 32)))) rfl) ?_
  refine xo (e_cvI rfl) ?_
  refine xo (e_bin rfl rfl (op_and _ _ _)) ?_
  refine xo (e_mv' (v := AV.int .i64 (andI .i64 (IntKind.wrap .i64 (IntKind.wrap .u64 ((IntKind.wrap .u64 ((IntKind.wrap .u64 ((andI .u64 (IntKind.wrap .u64 ((shrI .u64 (IntKind.wrap .u64 ((andI .u64 (shrI .u64 (IntKind.wrap .u64 ((andI .u64 (shrI .u64 x_ 1) 6148914691236517205) + (andI .u64 x_ 6148914691236517205))) 2) 3689348814741910323) + (andI .u64 (IntKind.wrap .u64 ((andI .u64 (shrI .u64 x_ 1) 6148914691236517205) + (andI .u64 x_ 6148914691236517205))) 3689348814741910323))) 4) + (IntKind.wrap .u64 ((andI .u64 (shrI .u64 (IntKind.wrap .u64 ((andI .u64 (shrI .u64 x_ 1) 6148914691236517205) + (andI .u64 x_ 6148914691236517205))) 2) 3689348814741910323) + (andI .u64 (IntKind.wrap .u64 ((andI .u64 (shrI .u64 x_ 1) 6148914691236517205) + (andI .u64 x_ 6148914691236517205))) 3689348814741910323))))) 1085102592571150095) + (shrI .u64 (andI .u64 (IntKind.wrap .u64 ((shrI .u64 (IntKind.wrap .u64 ((andI .u64 (shrI .u64 (IntKind.wrap .u64 ((andI .u64 (shrI .u64 x_ 1) 6148914691236517205) + (andI .u64 x_ 6148914691236517205))) 2) 3689348814741910323) + (andI .u64 (IntKind.wrap .u64 ((andI .u64 (shrI .u64 x_ 1) 6148914691236517205) + (andI .u64 x_ 6148914691236517205))) 3689348814741910323))) 4) + (IntKind.wrap .u64 ((andI .u64 (shrI .u64 (IntKind.wrap .u64 ((andI .u64 (shrI .u64 x_ 1) 6148914691236517205) + (andI .u64 x_ 6148914691236517205))) 2) 3689348814741910323) + (andI .u64 (IntKind.wrap .u64 ((andI .u64 (shrI .u64 x_ 1) 6148914691236517205) + (andI .u64 x_ 6148914691236517205))) 3689348814741910323))))) 1085102592571150095) 8))) + (shrI .u64 (IntKind.wrap .u64 ((andI .u64 (IntKind.wrap .u64 ((shrI .u64 (IntKind.wrap .u64 ((andI .u64 (shrI .u64 (IntKind.wrap .u64 ((andI .u64 (shrI .u64 x_ 1) 6148914691236517205) + (andI .u64 x_ 6148914691236517205))) 2) 3689348814741910323) + (andI .u64 (IntKind.wrap .u64 ((andI .u64 (shrI .u64 x_ 1) 6148914691236517205) + (andI .u64 x_ 6148914691236517205))) 3689348814741910323))) 4) + (IntKind.wrap .u64 ((andI .u64 (shrI .u64 (IntKind.wrap .u64 ((andI .u64 (shrI .u64 x_ 1) 6148914691236517205) + (andI .u64 x_ 6148914691236517205))) 2) 3689348814741910323) + (andI .u64 (IntKind.wrap .u64 ((andI .u64 (shrI .u64 x_ 1) 6148914691236517205) + (andI .u64 x_ 6148914691236517205))) 3689348814741910323))))) 1085102592571150095) + (shrI .u64 (andI .u64 (IntKind.wrap .u64 ((shrI .u64 (IntKind.wrap .u64 ((andI .u64 (shrI .u64 (IntKind.wrap .u64 ((andI .u64 (shrI .u64 x_ 1) 6148914691236517205) + (andI .u64 x_ 6148914691236517205))) 2) 3689348814741910323) + (andI .u64 (IntKind.wrap .u64 ((andI .u64 (shrI .u64 x_ 1) 6148914691236517205) + (andI .u64 x_ 6148914691236517205))) 3689348814741910323))) 4) + (IntKind.wrap .u64 ((andI .u64 (shrI .u64 (IntKind.wrap .u64 ((andI .u64 (shrI .u64 x_ 1) 6148914691236517205) + (andI .u64 x_ 6148914691236517205))) 2) 3689348814741910323) + (andI .u64 (IntKind.wrap .u64 ((andI .u64 (shrI .u64 x_ 1) 6148914691236517205) + (andI .u64 x_ 6148914691236517205))) 3689348814741910323))))) 1085102592571150095) 8))) 16))) + (shrI .u64 (IntKind.wrap .u64 ((IntKind.wrap .u64 ((andI .u64 (IntKind.wrap .u64 ((shrI .u64 (IntKind.wrap .u64 ((andI .u64 (shrI .u64 (IntKind.wrap .u64 ((andI .u64 (shrI .u64 x_ 1) 6148914691236517205) + (andI .u64 x_ 6148914691236517205))) 2) 3689348814741910323) + (andI .u64 (IntKind.wrap .u64 ((andI .u64 (shrI .u64 x_ 1) 6148914691236517205) + (andI .u64 x_ 6148914691236517205))) 3689348814741910323))) 4) + (IntKind.wrap .u64 ((andI .u64 (shrI .u64 (IntKind.wrap .u64 ((andI .u64 (shrI .u64 x_ 1) 6148914691236517205) + (andI .u64 x_ 6148914691236517205))) 2) 3689348814741910323) + (andI .u64 (IntKind.wrap .u64 ((andI .u64 (shrI .u64 x_ 1) 6148914691236517205) + (andI .u64 x_ 6148914691236517205))) 3689348814741910323))))) 1085102592571150095) + (shrI .u64 (andI .u64 (IntKind.wrap .u64 ((shrI .u64 (IntKind.wrap .u64 ((andI .u64 (shrI .u64 (IntKind.wrap .u64 ((andI .u64 (shrI .u64 x_ 1) 6148914691236517205) + (andI .u64 x_ 6148914691236517205))) 2) 3689348814741910323) + (andI .u64 (IntKind.wrap .u64 ((andI .u64 (shrI .u64 x_ 1) 6148914691236517205) + (andI .u64 x_ 6148914691236517205))) 3689348814741910323))) 4) + (IntKind.wrap .u64 ((andI .u64 (shrI .u64 (IntKind.wrap .u64 ((andI .u64 (shrI .u64 x_ 1) 6148914691236517205) + (andI .u64 x_ 6148914691236517205))) 2) 3689348814741910323) + (andI .u64 (IntKind.wrap .u64 ((andI .u64 (shrI .u64 x_ 1) 6148914691236517205) + (andI .u64 x_ 6148914691236517205))) 3689348814741910323))))) 1085102592571150095) 8))) + (shrI .u64 (IntKind.wrap .u64 ((andI .u64 (IntKind.wrap .u64 ((shrI .u64 (IntKind.wrap .u64 ((andI .u64 (shrI .u64 (IntKind.wrap .u64 ((andI .u64 (shrI .u64 x_ 1) 6148914691236517205) + (andI .u64 x_ 6148914691236517205))) 2) 3689348814741910323) + (andI .u64 (IntKind.wrap .u64 ((andI .u64 (shrI .u64 x_ 1) 6148914691236517205) + (andI .u64 x_ 6148914691236517205))) 3689348814741910323))) 4) + (IntKind.wrap .u64 ((andI .u64 (shrI .u64 (IntKind.wrap .u64 ((andI .u64 (shrI .u64 x_ 1) 6148914691236517205) + (andI .u64 x_ 6148914691236517205))) 2) 3689348814741910323) + (andI .u64 (IntKind.wrap .u64 ((andI .u64 (shrI .u64 x_ 1) 6148914691236517205) + (andI .u64 x_ 6148914691236517205))) 3689348814741910323))))) 1085102592571150095) + (shrI .u64 (andI .u64 (IntKind.wrap .u64 ((shrI .u64 (IntKind.wrap .u64 ((andI .u64 (shrI .u64 (IntKind.wrap .u64 ((andI .u64 (shrI .u64 x_ 1) 6148914691236517205) + (andI .u64 x_ 6148914691236517205))) 2) 3689348814741910323) + (andI .u64 (IntKind.wrap .u64 ((andI .u64 (shrI .u64 x_ 1) 6148914691236517205) + (andI .u64 x_ 6148914691236517205))) 3689348814741910323))) 4) + (IntKind.wrap .u64 ((andI .u64 (shrI .u64 (IntKind.wrap .u64 ((andI .u64 (shrI .u64 x_ 1) 6148914691236517205) + (andI .u64 x_ 6148914691236517205))) 2) 3689348814741910323) + (andI .u64 (IntKind.wrap .u64 ((andI .u64 (shrI .u64 x_ 1) 6148914691236517205) + (andI .u64 x_ 6148914691236517205))) 3689348814741910323))))) 1085102592571150095) 8))) 16))) 32)))) 127)) rfl) ?_
  refine ato_nil ?_
  refine atn_seq ?_
  refine at_ret ?_
  cases hF
  exact atr (rl_tmp rfl rl_nil) (isd (ds_eq rfl ds_i))
/-! ### 19: paddock/sets.Count -/
def O19_2 : List AOp := [⟨(.some 1), .none, (.plain (.box 4 (.t 0)))⟩, ⟨(.some 2), .none, (.plain (.mv (.c (.int .i64 0))))⟩]
def C19_2 : ACode := .ops O19_2
def O19_4 : List AOp := [⟨(.some 3), .none, (.plain (.mv (.c (.int .i64 0))))⟩]
def C19_4 : ACode := .ops O19_4
def O19_7 : List AOp := [⟨(.some 6), .none, (.plain (.loadN 4 (.t 1)))⟩, ⟨(.some 7), .none, (.plain (.mv (.c (.int .i64 0))))⟩]
def C19_7 : ACode := .ops O19_7
def O19_11 : List AOp := [⟨(.some 8), .none, (.plain (.binI .lss (.t 7) (.c (.int .i64 4))))⟩]
def C19_11 : ACode := .ops O19_11
def C19_14 : ACode := .skip
def C19_15 : ACode := .exit 0
def C19_13 : ACode := .cond (.t 8) C19_14 C19_15
def O19_19 : List AOp := [⟨(.some 9), .none, (.plain (.ixA1 4 1 (.t 6) (.t 7)))⟩, ⟨(.some 5), .none, (.plain (.mv (.t 9)))⟩]
def C19_19 : ACode := .ops O19_19
def O19_20 : List AOp := [⟨(.some 10), .none, (.plain (.mv (.t 3)))⟩, ⟨(.some 11), .none, (.plain (.mv (.t 5)))⟩, ⟨(.some 12), .none, (.call 37 [(.t 11)])⟩, ⟨(.some 13), .none, (.plain (.binI .add (.t 10) (.t 12)))⟩, ⟨(.some 3), .none, (.plain (.mv (.t 13)))⟩]
def C19_20 : ACode := .ops O19_20
def C19_18 : ACode := .seq C19_19 C19_20
def C19_17 : ACode := .block 1 C19_18
def O19_21 : List AOp := [⟨(.some 14), .none, (.plain (.binI .add (.t 7) (.c (.int .i64 1))))⟩, ⟨(.some 7), .none, (.plain (.mv (.t 14)))⟩]
def C19_21 : ACode := .ops O19_21
def C19_16 : ACode := .seq C19_17 C19_21
def C19_12 : ACode := .seq C19_13 C19_16
def C19_10 : ACode := .seq C19_11 C19_12
def C19_9 : ACode := .loop C19_10
def C19_8 : ACode := .block 0 C19_9
def C19_6 : ACode := .seq C19_7 C19_8
def O19_23 : List AOp := [⟨(.some 15), .none, (.plain (.mv (.t 3)))⟩, ⟨(.some 2), .none, (.plain (.mv (.t 15)))⟩]
def C19_23 : ACode := .ops O19_23
def C19_24 : ACode := .ret
def C19_22 : ACode := .seq C19_23 C19_24
def C19_5 : ACode := .seq C19_6 C19_22
def C19_3 : ACode := .seq C19_4 C19_5
def C19_1 : ACode := .seq C19_2 C19_3
def R19 : List RA := [(.tmp 2)]
theorem k19 : compF Try.prog (muL []) 19 = some ⟨16, C19_1, R19⟩ := by kernel_rfl
noncomputable def X19 (r : Int) : Cx := ⟨Try.prog, noG, 16, muL [], R19, isD (fun x => x = AV.int .i64 r)⟩
inductive St19 where
  | p1 (n : Int) (t6 : Arr 4 Int) (t7 : Int)
noncomputable def G19 : St19 → Option Int
  | .p1 n t6 t7 =>
    (if (decide (t7 < 4)) = true then
      (ix t6.l t7 >>= fun v8 =>
        (F37 v8 >>= fun r10 =>
          (G19 (.p1 (IntKind.wrap .i64 (n + r10)) t6 (IntKind.wrap .i64 (t7 + 1))))))
    else
      (some n))
  partial_fixpoint
def M19 (x : St19) (r : Int) : Prop := match x with
  | .p1 n t6 t7 => ∀ (tm : Fr) (st : Store), tm 3 = AV.int .i64 n → tm 6 = AV.agg (c24 t6) → tm 7 = AV.int .i64 t7 → AtL (X19 r) C19_10 [.blk 0, .seq C19_22] tm st
theorem w19 : ∀ (x : St19) (r : Int), G19 x = some r → M19 x r := by
  refine G19.partial_correctness M19 ?_
  intro g ih x r hF
  cases x with
  | p1 n t6 t7 =>
    dsimp only at hF
    intro tm st h3 h6 h7
    refine atl_once ?_
    refine at_seq (a := C19_11) (b := C19_12) ?_
    refine at_ops (l := O19_11) ?_
    refine xo (e_bin (v := .bool (decide (t7 < 4))) h7 rfl rfl) ?_
    refine ato_nil ?_
    refine atn_seq ?_
    refine at_seq (a := C19_13) (b := C19_16) ?_
    refine at_cond (x := C19_14) (y := C19_15) rfl (fun c7 => ?_) (fun c7 => ?_)
    · have hF := ite_t c7 hF
      refine at_skip ?_
      refine atn_seq ?_
      refine at_seq (a := C19_17) (b := C19_21) ?_
      refine at_block (x := C19_18) ?_
      refine at_seq (a := C19_19) (b := C19_20) ?_
      refine at_ops (l := O19_19) ?_
      obtain ⟨v8, g9, hF⟩ := bind_some hF
      refine xo (e_ixA1 h6 h7 (ix_lt g9) (lr_get (cI_len .u64) g9)) ?_
      refine xo (e_mv' (v := AV.int .u64 v8) rfl) ?_
      refine ato_nil ?_
      refine atn_seq ?_
      refine at_ops (l := O19_20) ?_
      refine xo (e_mv' (v := AV.int .i64 n) h3) ?_
      refine xo (e_mv' (v := AV.int .u64 v8) rfl) ?_
      obtain ⟨r10, g11, hF⟩ := bind_some hF
      refine xo_dfun' (d37 v8 _ g11) (dsl_cons (ds_eq rfl ds_i) dsl_nil) ?_
      refine xo (e_bin (v := .int .i64 (IntKind.wrap .i64 (n + r10))) rfl rfl rfl) ?_
      refine xo (e_mv' (v := AV.int .i64 (IntKind.wrap .i64 (n + r10))) rfl) ?_
      refine ato_nil ?_
      refine atn_blk ?_
      refine atn_seq ?_
      refine at_ops (l := O19_21) ?_
      refine xo (e_bin (v := .int .i64 (IntKind.wrap .i64 (t7 + 1))) h7 rfl rfl) ?_
      refine xo (e_mv' (v := AV.int .i64 (IntKind.wrap .i64 (t7 + 1))) rfl) ?_
      refine ato_nil ?_
      refine atn_lp ?_
      exact ih (.p1 (IntKind.wrap .i64 (n + r10)) t6 (IntKind.wrap .i64 (t7 + 1))) _ hF _ _ rfl h6 rfl
    · have hF := ite_f c7 hF
      refine at_exit ?_
      refine atx (k' := [.seq C19_22]) rfl ?_
      refine atn_seq ?_
      refine at_seq (a := C19_23) (b := C19_24) ?_
      refine at_ops (l := O19_23) ?_
      refine xo (e_mv' (v := AV.int .i64 n) h3) ?_
      refine xo (e_mv' (v := AV.int .i64 n) rfl) ?_
      refine ato_nil ?_
      refine atn_seq ?_
      refine at_ret ?_
      cases hF
      exact atr (rl_tmp rfl rl_nil) (isd (ds_eq rfl ds_i))
noncomputable def F19 (s : Arr 4 Int) : Option Int :=
  (G19 (.p1 0 s 0))
theorem d19 (s : Arr 4 Int) (r : Int) (hF : F19 s = some r) : DFun Try.prog noG 19 [AV.agg (c24 s)] (AV.int .i64 r) := by
  unfold F19 at hF
  refine dfun_at k19 (Nat.le_of_ble_eq_true rfl) ?_
  show At (X19 r) _ _ _ _
  refine at_seq (a := C19_2) (b := C19_3) ?_
  refine at_ops (l := O19_2) ?_
  refine xo_box (cs := c24 s) rfl rfl (c24_len _) fun s2 i3 o4 k5 q6 => ?_
  refine xo (e_mv' (v := AV.int .i64 0) rfl) ?_
  refine ato_nil ?_
  refine atn_seq ?_
  refine at_seq (a := C19_4) (b := C19_5) ?_
  refine at_ops (l := O19_4) ?_
  refine xo (e_mv' (v := AV.int .i64 0) rfl) ?_
  refine ato_nil ?_
  refine atn_seq ?_
  refine at_seq (a := C19_6) (b := C19_22) ?_
  refine at_seq (a := C19_7) (b := C19_8) ?_
  refine at_ops (l := O19_7) ?_
  refine xo (e_loadN rfl o4 (LR.whole _ _) (c24_len _)) ?_
  refine xo (e_mv' (v := AV.int .i64 0) rfl) ?_
  refine ato_nil ?_
  refine atn_seq ?_
  refine at_block (x := C19_9) ?_
  refine at_loop (b := C19_10) ?_
  exact w19 (.p1 0 s 0) _ hF _ _ rfl rfl rfl
/-! ### 20: paddock/sets.Range -/
def O20_2 : List AOp := [⟨(.some 4), .none, (.plain (.alloc [(.int .u64 0), (.int .u64 0), (.int .u64 0), (.int .u64 0)]))⟩]
def C20_2 : ACode := .ops O20_2
def O20_4 : List AOp := [⟨(.some 5), .none, (.plain (.alloc [(.int .u64 0), (.int .u64 0), (.int .u64 0), (.int .u64 0)]))⟩]
def C20_4 : ACode := .ops O20_4
def O20_7 : List AOp := [⟨(.some 7), .none, (.plain (.mv (.t 0)))⟩, ⟨(.some 8), .none, (.plain (.cvI .i64 (.t 7)))⟩, ⟨(.some 6), .none, (.plain (.mv (.t 8)))⟩]
def C20_7 : ACode := .ops O20_7
def O20_12 : List AOp := [⟨(.some 9), .none, (.plain (.mv (.t 6)))⟩, ⟨(.some 10), .none, (.plain (.mv (.t 1)))⟩, ⟨(.some 11), .none, (.plain (.cvI .i64 (.t 10)))⟩, ⟨(.some 12), .none, (.plain (.binI .leq (.t 9) (.t 11)))⟩]
def C20_12 : ACode := .ops O20_12
def C20_14 : ACode := .skip
def C20_15 : ACode := .exit 0
def C20_13 : ACode := .cond (.t 12) C20_14 C20_15
def C20_11 : ACode := .seq C20_12 C20_13
def O20_18 : List AOp := [⟨(.some 15), .none, (.plain (.loadN 4 (.t 5)))⟩, ⟨(.some 16), .none, (.plain (.mv (.t 6)))⟩, ⟨(.some 17), .none, (.plain (.cvI .u8 (.t 16)))⟩, ⟨(.some 18), .none, (.call 36 [(.t 15), (.t 17)])⟩, ⟨.none, .none, (.plain (.store 4 (.t 5) (.t 18)))⟩]
def C20_18 : ACode := .ops O20_18
def C20_17 : ACode := .block 1 C20_18
def O20_19 : List AOp := [⟨(.some 13), .none, (.plain (.mv (.t 6)))⟩, ⟨(.some 14), .none, (.plain (.binI .add (.t 13) (.c (.int .i64 1))))⟩, ⟨(.some 6), .none, (.plain (.mv (.t 14)))⟩]
def C20_19 : ACode := .ops O20_19
def C20_16 : ACode := .seq C20_17 C20_19
def C20_10 : ACode := .seq C20_11 C20_16
def C20_9 : ACode := .loop C20_10
def C20_8 : ACode := .block 0 C20_9
def C20_6 : ACode := .seq C20_7 C20_8
def O20_21 : List AOp := [⟨(.some 19), .none, (.plain (.loadN 4 (.t 5)))⟩, ⟨.none, .none, (.plain (.store 4 (.t 4) (.t 19)))⟩]
def C20_21 : ACode := .ops O20_21
def C20_22 : ACode := .ret
def C20_20 : ACode := .seq C20_21 C20_22
def C20_5 : ACode := .seq C20_6 C20_20
def C20_3 : ACode := .seq C20_4 C20_5
def C20_1 : ACode := .seq C20_2 C20_3
def R20 : List RA := [(.cellN 4 4)]
theorem k20 : compF Try.prog (muL []) 20 = some ⟨20, C20_1, R20⟩ := by kernel_rfl
noncomputable def X20 (r : Arr 4 Int) : Cx := ⟨Try.prog, noG, 20, muL [], R20, isD (fun x => x = AV.agg (c24 r))⟩
inductive St20 where
  | p1 (to_ : Int) (c : Int) (t4 : Arr 4 Int) (s : Arr 4 Int)
noncomputable def G20 : St20 → Option (Arr 4 Int)
  | .p1 to_ c t4 s =>
    (if (decide (c ≤ (IntKind.wrap .i64 to_))) = true then
      (F36 s (IntKind.wrap .u8 c) >>= fun r16 =>
        (G20 (.p1 to_ (IntKind.wrap .i64 (c + 1)) t4 r16)))
    else
      (some s))
  partial_fixpoint
def M20 (x : St20) (r : Arr 4 Int) : Prop := match x with
  | .p1 to_ c t4 s => ∀ (tm : Fr) (st : Store) (i0 : Nat) (i1 : Nat), tm 1 = AV.int .u8 to_ → tm 4 = .ptr i0 0 → tm 5 = .ptr i1 0 → tm 6 = AV.int .i64 c → st[i0]? = some (.cells (c24 t4)) → st[i1]? = some (.cells (c24 s)) → i0 ≠ i1 → AtL (X20 r) C20_10 [.blk 0, .seq C20_20] tm st
theorem w20 : ∀ (x : St20) (r : Arr 4 Int), G20 x = some r → M20 x r := by
  refine G20.partial_correctness M20 ?_
  intro g ih x r hF
  cases x with
  | p1 to_ c t4 s =>
    dsimp only at hF
    intro tm st i0 i1 h1 h4 h5 h6 o0 o1 n0_1
    refine atl_once ?_
    refine at_seq (a := C20_11) (b := C20_16) ?_
    refine at_seq (a := C20_12) (b := C20_13) ?_
    refine at_ops (l := O20_12) ?_
    refine xo (e_mv' (v := AV.int .i64 c) h6) ?_
    refine xo (e_mv' (v := AV.int .u8 to_) h1) ?_
    refine xo (e_cvI rfl) ?_
    refine xo (e_bin (v := .bool (decide (c ≤ (IntKind.wrap .i64 to_)))) rfl rfl rfl) ?_
    refine ato_nil ?_
    refine atn_seq ?_
    refine at_cond (x := C20_14) (y := C20_15) rfl (fun c15 => ?_) (fun c15 => ?_)
    · have hF := ite_t c15 hF
      refine at_skip ?_
      refine atn_seq ?_
      refine at_seq (a := C20_17) (b := C20_19) ?_
      refine at_block (x := C20_18) ?_
      refine at_ops (l := O20_18) ?_
      refine xo (e_loadN h5 o1 (LR.whole _ _) (c24_len _)) ?_
      refine xo (e_mv' (v := AV.int .i64 c) h6) ?_
      refine xo (e_cvI rfl) ?_
      obtain ⟨r16, g17, hF⟩ := bind_some hF
      refine xo_dfun' (d36 s (IntKind.wrap .u8 c) _ g17) (dsl_cons (ds_eq rfl (ds_agg (c24_ds _))) (dsl_cons (ds_eq rfl ds_i) dsl_nil)) ?_
      refine xo_store h5 o1 (LR.whole _ _) (c24_len _) rfl rfl (c24_len _) (c24_one _) fun s18 o19 k20 => ?_
      have o21 := k20 _ _ o0 n0_1
      refine ato_nil ?_
      refine atn_blk ?_
      refine atn_seq ?_
      refine at_ops (l := O20_19) ?_
      refine xo (e_mv' (v := AV.int .i64 c) h6) ?_
      refine xo (e_bin (v := .int .i64 (IntKind.wrap .i64 (c + 1))) rfl rfl rfl) ?_
      refine xo (e_mv' (v := AV.int .i64 (IntKind.wrap .i64 (c + 1))) rfl) ?_
      refine ato_nil ?_
      refine atn_lp ?_
      exact ih (.p1 to_ (IntKind.wrap .i64 (c + 1)) t4 r16) _ hF _ _ _ _ h1 h4 h5 rfl o21 o19 n0_1
    · have hF := ite_f c15 hF
      refine at_exit ?_
      refine atx (k' := [.seq C20_20]) rfl ?_
      refine atn_seq ?_
      refine at_seq (a := C20_21) (b := C20_22) ?_
      refine at_ops (l := O20_21) ?_
      refine xo (e_loadN h5 o1 (LR.whole _ _) (c24_len _)) ?_
      refine xo_store h4 o0 (LR.whole _ _) (c24_len _) rfl rfl (c24_len _) (c24_one _) fun s22 o23 k24 => ?_
      refine ato_nil ?_
      refine atn_seq ?_
      refine at_ret ?_
      cases hF
      exact atr (rl_cellN h4 o23 (LR.whole _ _) (c24_len _) rl_nil) (isd (ds_eq rfl (ds_agg (c24_ds _))))
noncomputable def F20 (from_ : Int) (to_ : Int) : Option (Arr 4 Int) :=
  (G20 (.p1 to_ (IntKind.wrap .i64 from_) (Arr.rep 4 0) (Arr.rep 4 0)))
theorem d20 (from_ : Int) (to_ : Int) (r : Arr 4 Int) (hF : F20 from_ to_ = some r) : DFun Try.prog noG 20 [AV.int .u8 from_, AV.int .u8 to_] (AV.agg (c24 r)) := by
  unfold F20 at hF
  refine dfun_at k20 (Nat.le_of_ble_eq_true rfl) ?_
  show At (X20 r) _ _ _ _
  refine at_seq (a := C20_2) (b := C20_3) ?_
  refine at_ops (l := O20_2) ?_
  refine xo_alloc (cs := c24 (Arr.rep 4 0)) rfl fun s2 i3 o4 k5 q6 => ?_
  refine ato_nil ?_
  refine atn_seq ?_
  refine at_seq (a := C20_4) (b := C20_5) ?_
  refine at_ops (l := O20_4) ?_
  refine xo_alloc (cs := c24 (Arr.rep 4 0)) rfl fun s8 i9 o10 k11 q12 => ?_
  have n13 : i3 ≠ i9 := fun e => ne_new o4 (e.trans q12)
  have o14 := keep0 k11 o4
  refine ato_nil ?_
  refine atn_seq ?_
  refine at_seq (a := C20_6) (b := C20_20) ?_
  refine at_seq (a := C20_7) (b := C20_8) ?_
  refine at_ops (l := O20_7) ?_
  refine xo (e_mv' (v := AV.int .u8 from_) rfl) ?_
  refine xo (e_cvI rfl) ?_
  refine xo (e_mv' (v := AV.int .i64 (IntKind.wrap .i64 from_)) rfl) ?_
  refine ato_nil ?_
  refine atn_seq ?_
  refine at_block (x := C20_9) ?_
  refine at_loop (b := C20_10) ?_
  exact w20 (.p1 to_ (IntKind.wrap .i64 from_) (Arr.rep 4 0) (Arr.rep 4 0)) _ hF _ _ _ _ rfl rfl rfl rfl o14 o10 n13
/-! ### 21: paddock/paddockref07.Range -/
def O21_2 : List AOp := [⟨(.some 4), .none, (.plain (.alloc [(.int .u64 0), (.int .u64 0), (.int .u64 0), (.int .u64 0)]))⟩]
def C21_2 : ACode := .ops O21_2
def O21_4 : List AOp := [⟨(.some 5), .none, (.plain (.alloc [(.int .u64 0), (.int .u64 0), (.int .u64 0), (.int .u64 0)]))⟩]
def C21_4 : ACode := .ops O21_4
def O21_7 : List AOp := [⟨(.some 7), .none, (.plain (.mv (.t 0)))⟩, ⟨(.some 8), .none, (.plain (.cvI .i64 (.t 7)))⟩, ⟨(.some 6), .none, (.plain (.mv (.t 8)))⟩]
def C21_7 : ACode := .ops O21_7
def O21_12 : List AOp := [⟨(.some 9), .none, (.plain (.mv (.t 6)))⟩, ⟨(.some 10), .none, (.plain (.mv (.t 1)))⟩, ⟨(.some 11), .none, (.plain (.cvI .i64 (.t 10)))⟩, ⟨(.some 12), .none, (.plain (.binI .leq (.t 9) (.t 11)))⟩]
def C21_12 : ACode := .ops O21_12
def C21_14 : ACode := .skip
def C21_15 : ACode := .exit 0
def C21_13 : ACode := .cond (.t 12) C21_14 C21_15
def C21_11 : ACode := .seq C21_12 C21_13
def O21_18 : List AOp := [⟨(.some 15), .none, (.plain (.loadN 4 (.t 5)))⟩, ⟨(.some 16), .none, (.plain (.mv (.t 6)))⟩, ⟨(.some 17), .none, (.plain (.cvI .u8 (.t 16)))⟩, ⟨(.some 18), .none, (.call 35 [(.t 15), (.t 17)])⟩, ⟨.none, .none, (.plain (.store 4 (.t 5) (.t 18)))⟩]
def C21_18 : ACode := .ops O21_18
def C21_17 : ACode := .block 1 C21_18
def O21_19 : List AOp := [⟨(.some 13), .none, (.plain (.mv (.t 6)))⟩, ⟨(.some 14), .none, (.plain (.binI .add (.t 13) (.c (.int .i64 1))))⟩, ⟨(.some 6), .none, (.plain (.mv (.t 14)))⟩]
def C21_19 : ACode := .ops O21_19
def C21_16 : ACode := .seq C21_17 C21_19
def C21_10 : ACode := .seq C21_11 C21_16
def C21_9 : ACode := .loop C21_10
def C21_8 : ACode := .block 0 C21_9
def C21_6 : ACode := .seq C21_7 C21_8
def O21_21 : List AOp := [⟨(.some 19), .none, (.plain (.loadN 4 (.t 5)))⟩, ⟨.none, .none, (.plain (.store 4 (.t 4) (.t 19)))⟩]
def C21_21 : ACode := .ops O21_21
def C21_22 : ACode := .ret
def C21_20 : ACode := .seq C21_21 C21_22
def C21_5 : ACode := .seq C21_6 C21_20
def C21_3 : ACode := .seq C21_4 C21_5
def C21_1 : ACode := .seq C21_2 C21_3
def R21 : List RA := [(.cellN 4 4)]
theorem k21 : compF Try.prog (muL []) 21 = some ⟨20, C21_1, R21⟩ := by kernel_rfl
noncomputable def X21 (r : Arr 4 Int) : Cx := ⟨Try.prog, noG, 20, muL [], R21, isD (fun x => x = AV.agg (c24 r))⟩
inductive St21 where
  | p1 (to_ : Int) (c : Int) (t4 : Arr 4 Int) (s : Arr 4 Int)
noncomputable def G21 : St21 → Option (Arr 4 Int)
  | .p1 to_ c t4 s =>
    (if (decide (c ≤ (IntKind.wrap .i64 to_))) = true then
      (F35 s (IntKind.wrap .u8 c) >>= fun r16 =>
        (G21 (.p1 to_ (IntKind.wrap .i64 (c + 1)) t4 r16)))
    else
      (some s))
  partial_fixpoint
def M21 (x : St21) (r : Arr 4 Int) : Prop := match x with
  | .p1 to_ c t4 s => ∀ (tm : Fr) (st : Store) (i0 : Nat) (i1 : Nat), tm 1 = AV.int .u8 to_ → tm 4 = .ptr i0 0 → tm 5 = .ptr i1 0 → tm 6 = AV.int .i64 c → st[i0]? = some (.cells (c24 t4)) → st[i1]? = some (.cells (c24 s)) → i0 ≠ i1 → AtL (X21 r) C21_10 [.blk 0, .seq C21_20] tm st
theorem w21 : ∀ (x : St21) (r : Arr 4 Int), G21 x = some r → M21 x r := by
  refine G21.partial_correctness M21 ?_
  intro g ih x r hF
  cases x with
  | p1 to_ c t4 s =>
    dsimp only at hF
    intro tm st i0 i1 h1 h4 h5 h6 o0 o1 n0_1
    refine atl_once ?_
    refine at_seq (a := C21_11) (b := C21_16) ?_
    refine at_seq (a := C21_12) (b := C21_13) ?_
    refine at_ops (l := O21_12) ?_
    refine xo (e_mv' (v := AV.int .i64 c) h6) ?_
    refine xo (e_mv' (v := AV.int .u8 to_) h1) ?_
    refine xo (e_cvI rfl) ?_
    refine xo (e_bin (v := .bool (decide (c ≤ (IntKind.wrap .i64 to_)))) rfl rfl rfl) ?_
    refine ato_nil ?_
    refine atn_seq ?_
    refine at_cond (x := C21_14) (y := C21_15) rfl (fun c15 => ?_) (fun c15 => ?_)
    · have hF := ite_t c15 hF
      refine at_skip ?_
      refine atn_seq ?_
      refine at_seq (a := C21_17) (b := C21_19) ?_
      refine at_block (x := C21_18) ?_
      refine at_ops (l := O21_18) ?_
      refine xo (e_loadN h5 o1 (LR.whole _ _) (c24_len _)) ?_
      refine xo (e_mv' (v := AV.int .i64 c) h6) ?_
      refine xo (e_cvI rfl) ?_
      obtain ⟨r16, g17, hF⟩ := bind_some hF
      refine xo_dfun' (d35 s (IntKind.wrap .u8 c) _ g17) (dsl_cons (ds_eq rfl (ds_agg (c24_ds _))) (dsl_cons (ds_eq rfl ds_i) dsl_nil)) ?_
      refine xo_store h5 o1 (LR.whole _ _) (c24_len _) rfl rfl (c24_len _) (c24_one _) fun s18 o19 k20 => ?_
      have o21 := k20 _ _ o0 n0_1
      refine ato_nil ?_
      refine atn_blk ?_
      refine atn_seq ?_
      refine at_ops (l := O21_19) ?_
      refine xo (e_mv' (v := AV.int .i64 c) h6) ?_
      refine xo (e_bin (v := .int .i64 (IntKind.wrap .i64 (c + 1))) rfl rfl rfl) ?_
      refine xo (e_mv' (v := AV.int .i64 (IntKind.wrap .i64 (c + 1))) rfl) ?_
      refine ato_nil ?_
      refine atn_lp ?_
      exact ih (.p1 to_ (IntKind.wrap .i64 (c + 1)) t4 r16) _ hF _ _ _ _ h1 h4 h5 rfl o21 o19 n0_1
    · have hF := ite_f c15 hF
      refine at_exit ?_
      refine atx (k' := [.seq C21_20]) rfl ?_
      refine atn_seq ?_
      refine at_seq (a := C21_21) (b := C21_22) ?_
      refine at_ops (l := O21_21) ?_
      refine xo (e_loadN h5 o1 (LR.whole _ _) (c24_len _)) ?_
      refine xo_store h4 o0 (LR.whole _ _) (c24_len _) rfl rfl (c24_len _) (c24_one _) fun s22 o23 k24 => ?_
      refine ato_nil ?_
      refine atn_seq ?_
      refine at_ret ?_
      cases hF
      exact atr (rl_cellN h4 o23 (LR.whole _ _) (c24_len _) rl_nil) (isd (ds_eq rfl (ds_agg (c24_ds _))))
noncomputable def F21 (from_ : Int) (to_ : Int) : Option (Arr 4 Int) :=
  (G21 (.p1 to_ (IntKind.wrap .i64 from_) (Arr.rep 4 0) (Arr.rep 4 0)))
theorem d21 (from_ : Int) (to_ : Int) (r : Arr 4 Int) (hF : F21 from_ to_ = some r) : DFun Try.prog noG 21 [AV.int .u8 from_, AV.int .u8 to_] (AV.agg (c24 r)) := by
  unfold F21 at hF
  refine dfun_at k21 (Nat.le_of_ble_eq_true rfl) ?_
  show At (X21 r) _ _ _ _
  refine at_seq (a := C21_2) (b := C21_3) ?_
  refine at_ops (l := O21_2) ?_
  refine xo_alloc (cs := c24 (Arr.rep 4 0)) rfl fun s2 i3 o4 k5 q6 => ?_
  refine ato_nil ?_
  refine atn_seq ?_
  refine at_seq (a := C21_4) (b := C21_5) ?_
  refine at_ops (l := O21_4) ?_
  refine xo_alloc (cs := c24 (Arr.rep 4 0)) rfl fun s8 i9 o10 k11 q12 => ?_
  have n13 : i3 ≠ i9 := fun e => ne_new o4 (e.trans q12)
  have o14 := keep0 k11 o4
  refine ato_nil ?_
  refine atn_seq ?_
  refine at_seq (a := C21_6) (b := C21_20) ?_
  refine at_seq (a := C21_7) (b := C21_8) ?_
  refine at_ops (l := O21_7) ?_
  refine xo (e_mv' (v := AV.int .u8 from_) rfl) ?_
  refine xo (e_cvI rfl) ?_
  refine xo (e_mv' (v := AV.int .i64 (IntKind.wrap .i64 from_)) rfl) ?_
  refine ato_nil ?_
  refine atn_seq ?_
  refine at_block (x := C21_9) ?_
  refine at_loop (b := C21_10) ?_
  exact w21 (.p1 to_ (IntKind.wrap .i64 from_) (Arr.rep 4 0) (Arr.rep 4 0)) _ hF _ _ _ _ rfl rfl rfl rfl o14 o10 n13
/-! ### 25: paddock/sets.And -/
def O25_2 : List AOp := [⟨(.some 2), .none, (.plain (.box 4 (.t 0)))⟩, ⟨(.some 3), .none, (.plain (.box 4 (.t 1)))⟩, ⟨(.some 4), .none, (.plain (.alloc [(.int .u64 0), (.int .u64 0), (.int .u64 0), (.int .u64 0)]))⟩]
def C25_2 : ACode := .ops O25_2
def O25_5 : List AOp := [⟨(.some 6), .none, (.plain (.mv (.c (.int .i64 0))))⟩]
def C25_5 : ACode := .ops O25_5
def O25_9 : List AOp := [⟨(.some 7), .none, (.plain (.binI .lss (.t 6) (.c (.int .i64 4))))⟩]
def C25_9 : ACode := .ops O25_9
def C25_12 : ACode := .skip
def C25_13 : ACode := .exit 0
def C25_11 : ACode := .cond (.t 7) C25_12 C25_13
def O25_17 : List AOp := [⟨(.some 8), .none, (.plain (.mv (.t 6)))⟩, ⟨(.some 5), .none, (.plain (.mv (.t 8)))⟩]
def C25_17 : ACode := .ops O25_17
def Q25_18 : List AOp := [⟨(.some 9), .none, (.plain (.mv (.t 5)))⟩, ⟨(.some 10), .none, (.plain (.iaddrA 4 1 (.t 2) (.t 9)))⟩, ⟨(.some 11), .none, (.plain (.load1 (.t 10)))⟩, ⟨(.some 12), .none, (.plain (.mv (.t 5)))⟩, ⟨(.some 13), .none, (.plain (.iaddrA 4 1 (.t 3) (.t 12)))⟩, ⟨(.some 14), .none, (.plain (.load1 (.t 13)))⟩, ⟨(.some 15), .none, (.plain (.binI .and (.t 11) (.t 14)))⟩, ⟨(.some 16), .none, (.plain (.iaddrA 4 1 (.t 2) (.t 9)))⟩]
def S25_18 : List AOp := [⟨.none, .none, (.plain (.store 1 (.t 16) (.t 15)))⟩]
def C25_18 : ACode := .draw [] 0 0 Q25_18 S25_18
def C25_16 : ACode := .seq C25_17 C25_18
def C25_15 : ACode := .block 1 C25_16
def O25_19 : List AOp := [⟨(.some 17), .none, (.plain (.binI .add (.t 6) (.c (.int .i64 1))))⟩, ⟨(.some 6), .none, (.plain (.mv (.t 17)))⟩]
def C25_19 : ACode := .ops O25_19
def C25_14 : ACode := .seq C25_15 C25_19
def C25_10 : ACode := .seq C25_11 C25_14
def C25_8 : ACode := .seq C25_9 C25_10
def C25_7 : ACode := .loop C25_8
def C25_6 : ACode := .block 0 C25_7
def C25_4 : ACode := .seq C25_5 C25_6
def O25_21 : List AOp := [⟨(.some 18), .none, (.plain (.loadN 4 (.t 2)))⟩, ⟨.none, .none, (.plain (.store 4 (.t 4) (.t 18)))⟩]
def C25_21 : ACode := .ops O25_21
def C25_22 : ACode := .ret
def C25_20 : ACode := .seq C25_21 C25_22
def C25_3 : ACode := .seq C25_4 C25_20
def C25_1 : ACode := .seq C25_2 C25_3
def R25 : List RA := [(.cellN 4 4)]
theorem k25 : compF Try.prog (muL []) 25 = some ⟨19, C25_1, R25⟩ := by kernel_rfl
noncomputable def X25 (r : Arr 4 Int) : Cx := ⟨Try.prog, noG, 19, muL [], R25, isD (fun x => x = AV.agg (c24 r))⟩
inductive St25 where
  | p1 (t6 : Int) (a : Arr 4 Int) (b : Arr 4 Int) (t4 : Arr 4 Int)
noncomputable def G25 : St25 → Option (Arr 4 Int)
  | .p1 t6 a b t4 =>
    (if (decide (t6 < 4)) = true then
      (if 0 ≤ t6 ∧ t6 < (4 : Int) then
        (ix a.l t6 >>= fun v27 =>
          (if 0 ≤ t6 ∧ t6 < (4 : Int) then
            (ix b.l t6 >>= fun v30 =>
              (if 0 ≤ t6 ∧ t6 < (4 : Int) then
                (G25 (.p1 (IntKind.wrap .i64 (t6 + 1)) (aset a t6 (andI .u64 v27 v30)) b t4))
              else none))
          else none))
      else none)
    else
      (some a))
  partial_fixpoint
def M25 (x : St25) (r : Arr 4 Int) : Prop := match x with
  | .p1 t6 a b t4 => ∀ (tm : Fr) (st : Store) (i0 : Nat) (i1 : Nat) (i2 : Nat), tm 2 = .ptr i0 0 → tm 3 = .ptr i1 0 → tm 4 = .ptr i2 0 → tm 6 = AV.int .i64 t6 → st[i0]? = some (.cells (c24 a)) → st[i1]? = some (.cells (c24 b)) → st[i2]? = some (.cells (c24 t4)) → i0 ≠ i1 → i0 ≠ i2 → i1 ≠ i2 → AtL (X25 r) C25_8 [.blk 0, .seq C25_20] tm st
theorem w25 : ∀ (x : St25) (r : Arr 4 Int), G25 x = some r → M25 x r := by
  refine G25.partial_correctness M25 ?_
  intro g ih x r hF
  cases x with
  | p1 t6 a b t4 =>
    dsimp only at hF
    intro tm st i0 i1 i2 h2 h3 h4 h6 o0 o1 o2 n0_1 n0_2 n1_2
    refine atl_once ?_
    refine at_seq (a := C25_9) (b := C25_10) ?_
    refine at_ops (l := O25_9) ?_
    refine xo (e_bin (v := .bool (decide (t6 < 4))) h6 rfl rfl) ?_
    refine ato_nil ?_
    refine atn_seq ?_
    refine at_seq (a := C25_11) (b := C25_14) ?_
    refine at_cond (x := C25_12) (y := C25_13) rfl (fun c25 => ?_) (fun c25 => ?_)
    · have hF := ite_t c25 hF
      refine at_skip ?_
      refine atn_seq ?_
      refine at_seq (a := C25_15) (b := C25_19) ?_
      refine at_block (x := C25_16) ?_
      refine at_seq (a := C25_17) (b := C25_18) ?_
      refine at_ops (l := O25_17) ?_
      refine xo (e_mv' (v := AV.int .i64 t6) h6) ?_
      refine xo (e_mv' (v := AV.int .i64 t6) rfl) ?_
      refine ato_nil ?_
      refine atn_seq ?_
      refine at_draw0 (q := Q25_18) (suf := S25_18) ?_
      refine xd rfl (e_mv' (v := AV.int .i64 t6) rfl) ?_
      obtain ⟨g26, hF⟩ := grd_some hF
      refine xd rfl (e_iaddrA h2 o0 rfl g26) ?_
      obtain ⟨v27, g28, hF⟩ := bind_some hF
      refine xd rfl (e_load1 rfl o0 (LR.comp (LR.whole _ _) (lr_get (cI_len .u64) g28))) ?_
      refine xd rfl (e_mv' (v := AV.int .i64 t6) rfl) ?_
      obtain ⟨g29, hF⟩ := grd_some hF
      refine xd rfl (e_iaddrA h3 o1 rfl g29) ?_
      obtain ⟨v30, g31, hF⟩ := bind_some hF
      refine xd rfl (e_load1 rfl o1 (LR.comp (LR.whole _ _) (lr_get (cI_len .u64) g31))) ?_
      refine xd rfl (e_bin rfl rfl (op_and _ _ _)) ?_
      obtain ⟨g32, hF⟩ := grd_some hF
      refine xd rfl (e_iaddrA h2 o0 rfl g32) ?_
      refine atd_nil ?_
      obtain ⟨y33, g34⟩ := ix_in a g32 rfl
      refine xo_store rfl o0 (LR.comp (LR.whole _ _) (lr_set (cI_len .u64) g34 (andI .u64 v27 v30))) ((cI_len .u64) _) rfl rfl ((cI_len .u64) _) ((cI_one .u64) _) fun s35 o36 k37 => ?_
      have o38 := k37 _ _ o1 (Ne.symm n0_1)
      have o39 := k37 _ _ o2 (Ne.symm n0_2)
      refine ato_nil ?_
      refine atn_blk ?_
      refine atn_seq ?_
      refine at_ops (l := O25_19) ?_
      refine xo (e_bin (v := .int .i64 (IntKind.wrap .i64 (t6 + 1))) h6 rfl rfl) ?_
      refine xo (e_mv' (v := AV.int .i64 (IntKind.wrap .i64 (t6 + 1))) rfl) ?_
      refine ato_nil ?_
      refine atn_lp ?_
      exact ih (.p1 (IntKind.wrap .i64 (t6 + 1)) (aset a t6 (andI .u64 v27 v30)) b t4) _ hF _ _ _ _ _ h2 h3 h4 rfl o36 o38 o39 n0_1 n0_2 n1_2
    · have hF := ite_f c25 hF
      refine at_exit ?_
      refine atx (k' := [.seq C25_20]) rfl ?_
      refine atn_seq ?_
      refine at_seq (a := C25_21) (b := C25_22) ?_
      refine at_ops (l := O25_21) ?_
      refine xo (e_loadN h2 o0 (LR.whole _ _) (c24_len _)) ?_
      refine xo_store h4 o2 (LR.whole _ _) (c24_len _) rfl rfl (c24_len _) (c24_one _) fun s40 o41 k42 => ?_
      refine ato_nil ?_
      refine atn_seq ?_
      refine at_ret ?_
      cases hF
      exact atr (rl_cellN h4 o41 (LR.whole _ _) (c24_len _) rl_nil) (isd (ds_eq rfl (ds_agg (c24_ds _))))
noncomputable def F25 (a : Arr 4 Int) (b : Arr 4 Int) : Option (Arr 4 Int) :=
  (G25 (.p1 0 a b (Arr.rep 4 0)))
theorem d25 (a : Arr 4 Int) (b : Arr 4 Int) (r : Arr 4 Int) (hF : F25 a b = some r) : DFun Try.prog noG 25 [AV.agg (c24 a), AV.agg (c24 b)] (AV.agg (c24 r)) := by
  unfold F25 at hF
  refine dfun_at k25 (Nat.le_of_ble_eq_true rfl) ?_
  show At (X25 r) _ _ _ _
  refine at_seq (a := C25_2) (b := C25_3) ?_
  refine at_ops (l := O25_2) ?_
  refine xo_box (cs := c24 a) rfl rfl (c24_len _) fun s2 i3 o4 k5 q6 => ?_
  refine xo_box (cs := c24 b) rfl rfl (c24_len _) fun s8 i9 o10 k11 q12 => ?_
  have n13 : i3 ≠ i9 := fun e => ne_new o4 (e.trans q12)
  have o14 := keep0 k11 o4
  refine xo_alloc (cs := c24 (Arr.rep 4 0)) rfl fun s16 i17 o18 k19 q20 => ?_
  have n21 : i3 ≠ i17 := fun e => ne_new o14 (e.trans q20)
  have n22 : i9 ≠ i17 := fun e => ne_new o10 (e.trans q20)
  have o23 := keep0 k19 o14
  have o24 := keep0 k19 o10
  refine ato_nil ?_
  refine atn_seq ?_
  refine at_seq (a := C25_4) (b := C25_20) ?_
  refine at_seq (a := C25_5) (b := C25_6) ?_
  refine at_ops (l := O25_5) ?_
  refine xo (e_mv' (v := AV.int .i64 0) rfl) ?_
  refine ato_nil ?_
  refine atn_seq ?_
  refine at_block (x := C25_7) ?_
  refine at_loop (b := C25_8) ?_
  exact w25 (.p1 0 a b (Arr.rep 4 0)) _ hF _ _ _ _ _ rfl rfl rfl rfl o23 o24 o18 n13 n21 n22
/-! ### 26: paddock/paddockref07.And -/
def O26_2 : List AOp := [⟨(.some 2), .none, (.plain (.box 4 (.t 0)))⟩, ⟨(.some 3), .none, (.plain (.box 4 (.t 1)))⟩, ⟨(.some 4), .none, (.plain (.alloc [(.int .u64 0), (.int .u64 0), (.int .u64 0), (.int .u64 0)]))⟩]
def C26_2 : ACode := .ops O26_2
def O26_4 : List AOp := [⟨(.some 5), .none, (.plain (.alloc [(.int .u64 0), (.int .u64 0), (.int .u64 0), (.int .u64 0)]))⟩]
def C26_4 : ACode := .ops O26_4
def O26_7 : List AOp := [⟨(.some 8), .none, (.plain (.loadN 4 (.t 2)))⟩, ⟨(.some 9), .none, (.call 16 [(.t 8)])⟩, ⟨(.some 10), .none, (.plain (.len (.t 9)))⟩, ⟨(.some 11), .none, (.plain (.mv (.c (.int .i64 0))))⟩]
def C26_7 : ACode := .ops O26_7
def O26_11 : List AOp := [⟨(.some 12), .none, (.plain (.binI .lss (.t 11) (.t 10)))⟩]
def C26_11 : ACode := .ops O26_11
def C26_14 : ACode := .skip
def C26_15 : ACode := .exit 0
def C26_13 : ACode := .cond (.t 12) C26_14 C26_15
def O26_19 : List AOp := [⟨(.some 13), .none, (.plain (.iaddrL 1 (.t 9) (.t 11)))⟩, ⟨(.some 14), .none, (.plain (.load1 (.t 13)))⟩, ⟨(.some 7), .none, (.plain (.mv (.t 14)))⟩]
def C26_19 : ACode := .ops O26_19
def O26_21 : List AOp := [⟨(.some 15), .none, (.plain (.loadN 4 (.t 3)))⟩, ⟨(.some 16), .none, (.plain (.mv (.t 7)))⟩, ⟨(.some 17), .none, (.call 18 [(.t 15), (.t 16)])⟩]
def C26_21 : ACode := .ops O26_21
def O26_23 : List AOp := [⟨(.some 18), .none, (.plain (.loadN 4 (.t 5)))⟩, ⟨(.some 19), .none, (.plain (.mv (.t 7)))⟩, ⟨(.some 20), .none, (.call 35 [(.t 18), (.t 19)])⟩, ⟨.none, .none, (.plain (.store 4 (.t 5) (.t 20)))⟩]
def C26_23 : ACode := .ops O26_23
def C26_24 : ACode := .skip
def C26_22 : ACode := .cond (.t 17) C26_23 C26_24
def C26_20 : ACode := .seq C26_21 C26_22
def C26_18 : ACode := .seq C26_19 C26_20
def C26_17 : ACode := .block 1 C26_18
def O26_25 : List AOp := [⟨(.some 21), .none, (.plain (.binI .add (.t 11) (.c (.int .i64 1))))⟩, ⟨(.some 11), .none, (.plain (.mv (.t 21)))⟩]
def C26_25 : ACode := .ops O26_25
def C26_16 : ACode := .seq C26_17 C26_25
def C26_12 : ACode := .seq C26_13 C26_16
def C26_10 : ACode := .seq C26_11 C26_12
def C26_9 : ACode := .loop C26_10
def C26_8 : ACode := .block 0 C26_9
def C26_6 : ACode := .seq C26_7 C26_8
def O26_27 : List AOp := [⟨(.some 22), .none, (.plain (.loadN 4 (.t 5)))⟩, ⟨.none, .none, (.plain (.store 4 (.t 4) (.t 22)))⟩]
def C26_27 : ACode := .ops O26_27
def C26_28 : ACode := .ret
def C26_26 : ACode := .seq C26_27 C26_28
def C26_5 : ACode := .seq C26_6 C26_26
def C26_3 : ACode := .seq C26_4 C26_5
def C26_1 : ACode := .seq C26_2 C26_3
def R26 : List RA := [(.cellN 4 4)]
theorem k26 : compF Try.prog (muL []) 26 = some ⟨23, C26_1, R26⟩ := by kernel_rfl
noncomputable def X26 (r : Arr 4 Int) : Cx := ⟨Try.prog, noG, 23, muL [], R26, isD (fun x => x = AV.agg (c24 r))⟩
inductive St26 where
  | p1 (t9 : Sl Int) (t10 : Int) (t11 : Int) (b : Arr 4 Int) (t4 : Arr 4 Int) (s : Arr 4 Int)
noncomputable def G26 : St26 → Option (Arr 4 Int)
  | .p1 t9 t10 t11 b t4 s =>
    (if (decide (t11 < t10)) = true then
      (ix (ls t9) t11 >>= fun v40 =>
        (F18 b v40 >>= fun r42 =>
          (if r42 = true then
            (F35 s v40 >>= fun r45 =>
              (G26 (.p1 t9 t10 (IntKind.wrap .i64 (t11 + 1)) b t4 r45)))
          else
            (G26 (.p1 t9 t10 (IntKind.wrap .i64 (t11 + 1)) b t4 s)))))
    else
      (some s))
  partial_fixpoint
def M26 (x : St26) (r : Arr 4 Int) : Prop := match x with
  | .p1 t9 t10 t11 b t4 s => ∀ (tm : Fr) (st : Store) (i0 : Nat) (i1 : Nat) (i2 : Nat), tm 3 = .ptr i0 0 → tm 4 = .ptr i1 0 → tm 5 = .ptr i2 0 → tm 9 = slV 1 (AV.int .u8) t9 → tm 10 = AV.int .i64 t10 → tm 11 = AV.int .i64 t11 → st[i0]? = some (.cells (c24 b)) → st[i1]? = some (.cells (c24 t4)) → st[i2]? = some (.cells (c24 s)) → i0 ≠ i1 → i0 ≠ i2 → i1 ≠ i2 → AtL (X26 r) C26_10 [.blk 0, .seq C26_26] tm st
theorem w26 : ∀ (x : St26) (r : Arr 4 Int), G26 x = some r → M26 x r := by
  refine G26.partial_correctness M26 ?_
  intro g ih x r hF
  cases x with
  | p1 t9 t10 t11 b t4 s =>
    dsimp only at hF
    intro tm st i0 i1 i2 h3 h4 h5 h9 h10 h11 o0 o1 o2 n0_1 n0_2 n1_2
    refine atl_once ?_
    refine at_seq (a := C26_11) (b := C26_12) ?_
    refine at_ops (l := O26_11) ?_
    refine xo (e_bin (v := .bool (decide (t11 < t10))) h11 h10 rfl) ?_
    refine ato_nil ?_
    refine atn_seq ?_
    refine at_seq (a := C26_13) (b := C26_16) ?_
    refine at_cond (x := C26_14) (y := C26_15) rfl (fun c39 => ?_) (fun c39 => ?_)
    · have hF := ite_t c39 hF
      refine at_skip ?_
      refine atn_seq ?_
      refine at_seq (a := C26_17) (b := C26_25) ?_
      refine at_block (x := C26_18) ?_
      refine at_seq (a := C26_19) (b := C26_20) ?_
      refine at_ops (l := O26_19) ?_
      obtain ⟨v40, g41, hF⟩ := bind_some hF
      refine xo (e_iaddrL (rd_V h9) h11 g41) ?_
      refine xo (e_load1D (show _ = AV.dptr ((cI .u8) v40) from rfl) (DP.refl _)) ?_
      refine xo (e_mv' (v := AV.int .u8 v40) rfl) ?_
      refine ato_nil ?_
      refine atn_seq ?_
      refine at_seq (a := C26_21) (b := C26_22) ?_
      refine at_ops (l := O26_21) ?_
      refine xo (e_loadN h3 o0 (LR.whole _ _) (c24_len _)) ?_
      refine xo (e_mv' (v := AV.int .u8 v40) rfl) ?_
      obtain ⟨r42, g43, hF⟩ := bind_some hF
      refine xo_dfun' (d18 b v40 _ g43) (dsl_cons (ds_eq rfl (ds_agg (c24_ds _))) (dsl_cons (ds_eq rfl ds_i) dsl_nil)) ?_
      refine ato_nil ?_
      refine atn_seq ?_
      refine at_cond (x := C26_23) (y := C26_24) rfl (fun c44 => ?_) (fun c44 => ?_)
      · have hF := ite_t c44 hF
        refine at_ops (l := O26_23) ?_
        refine xo (e_loadN h5 o2 (LR.whole _ _) (c24_len _)) ?_
        refine xo (e_mv' (v := AV.int .u8 v40) rfl) ?_
        obtain ⟨r45, g46, hF⟩ := bind_some hF
        refine xo_dfun' (d35 s v40 _ g46) (dsl_cons (ds_eq rfl (ds_agg (c24_ds _))) (dsl_cons (ds_eq rfl ds_i) dsl_nil)) ?_
        refine xo_store h5 o2 (LR.whole _ _) (c24_len _) rfl rfl (c24_len _) (c24_one _) fun s47 o48 k49 => ?_
        have o50 := k49 _ _ o0 n0_2
        have o51 := k49 _ _ o1 n1_2
        refine ato_nil ?_
        refine atn_blk ?_
        refine atn_seq ?_
        refine at_ops (l := O26_25) ?_
        refine xo (e_bin (v := .int .i64 (IntKind.wrap .i64 (t11 + 1))) h11 rfl rfl) ?_
        refine xo (e_mv' (v := AV.int .i64 (IntKind.wrap .i64 (t11 + 1))) rfl) ?_
        refine ato_nil ?_
        refine atn_lp ?_
        exact ih (.p1 t9 t10 (IntKind.wrap .i64 (t11 + 1)) b t4 r45) _ hF _ _ _ _ _ h3 h4 h5 h9 h10 rfl o50 o51 o48 n0_1 n0_2 n1_2
      · have hF := ite_f c44 hF
        refine at_skip ?_
        refine atn_blk ?_
        refine atn_seq ?_
        refine at_ops (l := O26_25) ?_
        refine xo (e_bin (v := .int .i64 (IntKind.wrap .i64 (t11 + 1))) h11 rfl rfl) ?_
        refine xo (e_mv' (v := AV.int .i64 (IntKind.wrap .i64 (t11 + 1))) rfl) ?_
        refine ato_nil ?_
        refine atn_lp ?_
        exact ih (.p1 t9 t10 (IntKind.wrap .i64 (t11 + 1)) b t4 s) _ hF _ _ _ _ _ h3 h4 h5 h9 h10 rfl o0 o1 o2 n0_1 n0_2 n1_2
    · have hF := ite_f c39 hF
      refine at_exit ?_
      refine atx (k' := [.seq C26_26]) rfl ?_
      refine atn_seq ?_
      refine at_seq (a := C26_27) (b := C26_28) ?_
      refine at_ops (l := O26_27) ?_
      refine xo (e_loadN h5 o2 (LR.whole _ _) (c24_len _)) ?_
      refine xo_store h4 o1 (LR.whole _ _) (c24_len _) rfl rfl (c24_len _) (c24_one _) fun s52 o53 k54 => ?_
      refine ato_nil ?_
      refine atn_seq ?_
      refine at_ret ?_
      cases hF
      exact atr (rl_cellN h4 o53 (LR.whole _ _) (c24_len _) rl_nil) (isd (ds_eq rfl (ds_agg (c24_ds _))))
noncomputable def F26 (a : Arr 4 Int) (b : Arr 4 Int) : Option (Arr 4 Int) :=
  (F16 a >>= fun r37 =>
    (G26 (.p1 r37 ((ls r37).length : Int) 0 b (Arr.rep 4 0) (Arr.rep 4 0))))
theorem d26 (a : Arr 4 Int) (b : Arr 4 Int) (r : Arr 4 Int) (hF : F26 a b = some r) : DFun Try.prog noG 26 [AV.agg (c24 a), AV.agg (c24 b)] (AV.agg (c24 r)) := by
  unfold F26 at hF
  refine dfun_at k26 (Nat.le_of_ble_eq_true rfl) ?_
  show At (X26 r) _ _ _ _
  refine at_seq (a := C26_2) (b := C26_3) ?_
  refine at_ops (l := O26_2) ?_
  refine xo_box (cs := c24 a) rfl rfl (c24_len _) fun s2 i3 o4 k5 q6 => ?_
  refine xo_box (cs := c24 b) rfl rfl (c24_len _) fun s8 i9 o10 k11 q12 => ?_
  have n13 : i3 ≠ i9 := fun e => ne_new o4 (e.trans q12)
  have o14 := keep0 k11 o4
  refine xo_alloc (cs := c24 (Arr.rep 4 0)) rfl fun s16 i17 o18 k19 q20 => ?_
  have n21 : i3 ≠ i17 := fun e => ne_new o14 (e.trans q20)
  have n22 : i9 ≠ i17 := fun e => ne_new o10 (e.trans q20)
  have o23 := keep0 k19 o14
  have o24 := keep0 k19 o10
  refine ato_nil ?_
  refine atn_seq ?_
  refine at_seq (a := C26_4) (b := C26_5) ?_
  refine at_ops (l := O26_4) ?_
  refine xo_alloc (cs := c24 (Arr.rep 4 0)) rfl fun s26 i27 o28 k29 q30 => ?_
  have n31 : i3 ≠ i27 := fun e => ne_new o23 (e.trans q30)
  have n32 : i9 ≠ i27 := fun e => ne_new o24 (e.trans q30)
  have n33 : i17 ≠ i27 := fun e => ne_new o18 (e.trans q30)
  have o34 := keep0 k29 o23
  have o35 := keep0 k29 o24
  have o36 := keep0 k29 o18
  refine ato_nil ?_
  refine atn_seq ?_
  refine at_seq (a := C26_6) (b := C26_26) ?_
  refine at_seq (a := C26_7) (b := C26_8) ?_
  refine at_ops (l := O26_7) ?_
  refine xo (e_loadN rfl o34 (LR.whole _ _) (c24_len _)) ?_
  obtain ⟨r37, g38, hF⟩ := bind_some hF
  refine xo_dfun' (d16 a _ g38) (dsl_cons (ds_eq rfl (ds_agg (c24_ds _))) dsl_nil) ?_
  refine xo (e_len (rd_V rfl)) ?_
  refine xo (e_mv' (v := AV.int .i64 0) rfl) ?_
  refine ato_nil ?_
  refine atn_seq ?_
  refine at_block (x := C26_9) ?_
  refine at_loop (b := C26_10) ?_
  exact w26 (.p1 r37 ((ls r37).length : Int) 0 b (Arr.rep 4 0) (Arr.rep 4 0)) _ hF _ _ _ _ _ rfl rfl rfl rfl rfl rfl o35 o36 o28 n22 n32 n33
/-! ### 27: paddock/sets.Or -/
def O27_2 : List AOp := [⟨(.some 2), .none, (.plain (.box 4 (.t 0)))⟩, ⟨(.some 3), .none, (.plain (.box 4 (.t 1)))⟩, ⟨(.some 4), .none, (.plain (.alloc [(.int .u64 0), (.int .u64 0), (.int .u64 0), (.int .u64 0)]))⟩]
def C27_2 : ACode := .ops O27_2
def O27_5 : List AOp := [⟨(.some 6), .none, (.plain (.mv (.c (.int .i64 0))))⟩]
def C27_5 : ACode := .ops O27_5
def O27_9 : List AOp := [⟨(.some 7), .none, (.plain (.binI .lss (.t 6) (.c (.int .i64 4))))⟩]
def C27_9 : ACode := .ops O27_9
def C27_12 : ACode := .skip
def C27_13 : ACode := .exit 0
def C27_11 : ACode := .cond (.t 7) C27_12 C27_13
def O27_17 : List AOp := [⟨(.some 8), .none, (.plain (.mv (.t 6)))⟩, ⟨(.some 5), .none, (.plain (.mv (.t 8)))⟩]
def C27_17 : ACode := .ops O27_17
def Q27_18 : List AOp := [⟨(.some 9), .none, (.plain (.mv (.t 5)))⟩, ⟨(.some 10), .none, (.plain (.iaddrA 4 1 (.t 2) (.t 9)))⟩, ⟨(.some 11), .none, (.plain (.load1 (.t 10)))⟩, ⟨(.some 12), .none, (.plain (.mv (.t 5)))⟩, ⟨(.some 13), .none, (.plain (.iaddrA 4 1 (.t 3) (.t 12)))⟩, ⟨(.some 14), .none, (.plain (.load1 (.t 13)))⟩, ⟨(.some 15), .none, (.plain (.binI .or (.t 11) (.t 14)))⟩, ⟨(.some 16), .none, (.plain (.iaddrA 4 1 (.t 2) (.t 9)))⟩]
def S27_18 : List AOp := [⟨.none, .none, (.plain (.store 1 (.t 16) (.t 15)))⟩]
def C27_18 : ACode := .draw [] 0 0 Q27_18 S27_18
def C27_16 : ACode := .seq C27_17 C27_18
def C27_15 : ACode := .block 1 C27_16
def O27_19 : List AOp := [⟨(.some 17), .none, (.plain (.binI .add (.t 6) (.c (.int .i64 1))))⟩, ⟨(.some 6), .none, (.plain (.mv (.t 17)))⟩]
def C27_19 : ACode := .ops O27_19
def C27_14 : ACode := .seq C27_15 C27_19
def C27_10 : ACode := .seq C27_11 C27_14
def C27_8 : ACode := .seq C27_9 C27_10
def C27_7 : ACode := .loop C27_8
def C27_6 : ACode := .block 0 C27_7
def C27_4 : ACode := .seq C27_5 C27_6
def O27_21 : List AOp := [⟨(.some 18), .none, (.plain (.loadN 4 (.t 2)))⟩, ⟨.none, .none, (.plain (.store 4 (.t 4) (.t 18)))⟩]
def C27_21 : ACode := .ops O27_21
def C27_22 : ACode := .ret
def C27_20 : ACode := .seq C27_21 C27_22
def C27_3 : ACode := .seq C27_4 C27_20
def C27_1 : ACode := .seq C27_2 C27_3
def R27 : List RA := [(.cellN 4 4)]
theorem k27 : compF Try.prog (muL []) 27 = some ⟨19, C27_1, R27⟩ := by kernel_rfl
noncomputable def X27 (r : Arr 4 Int) : Cx := ⟨Try.prog, noG, 19, muL [], R27, isD (fun x => x = AV.agg (c24 r))⟩
inductive St27 where
  | p1 (t6 : Int) (a : Arr 4 Int) (b : Arr 4 Int) (t4 : Arr 4 Int)
noncomputable def G27 : St27 → Option (Arr 4 Int)
  | .p1 t6 a b t4 =>
    (if (decide (t6 < 4)) = true then
      (if 0 ≤ t6 ∧ t6 < (4 : Int) then
        (ix a.l t6 >>= fun v27 =>
          (if 0 ≤ t6 ∧ t6 < (4 : Int) then
            (ix b.l t6 >>= fun v30 =>
              (if 0 ≤ t6 ∧ t6 < (4 : Int) then
                (G27 (.p1 (IntKind.wrap .i64 (t6 + 1)) (aset a t6 (orI .u64 v27 v30)) b t4))
              else none))
          else none))
      else none)
    else
      (some a))
  partial_fixpoint
def M27 (x : St27) (r : Arr 4 Int) : Prop := match x with
  | .p1 t6 a b t4 => ∀ (tm : Fr) (st : Store) (i0 : Nat) (i1 : Nat) (i2 : Nat), tm 2 = .ptr i0 0 → tm 3 = .ptr i1 0 → tm 4 = .ptr i2 0 → tm 6 = AV.int .i64 t6 → st[i0]? = some (.cells (c24 a)) → st[i1]? = some (.cells (c24 b)) → st[i2]? = some (.cells (c24 t4)) → i0 ≠ i1 → i0 ≠ i2 → i1 ≠ i2 → AtL (X27 r) C27_8 [.blk 0, .seq C27_20] tm st
theorem w27 : ∀ (x : St27) (r : Arr 4 Int), G27 x = some r → M27 x r := by
  refine G27.partial_correctness M27 ?_
  intro g ih x r hF
  cases x with
  | p1 t6 a b t4 =>
    dsimp only at hF
    intro tm st i0 i1 i2 h2 h3 h4 h6 o0 o1 o2 n0_1 n0_2 n1_2
    refine atl_once ?_
    refine at_seq (a := C27_9) (b := C27_10) ?_
    refine at_ops (l := O27_9) ?_
    refine xo (e_bin (v := .bool (decide (t6 < 4))) h6 rfl rfl) ?_
    refine ato_nil ?_
    refine atn_seq ?_
    refine at_seq (a := C27_11) (b := C27_14) ?_
    refine at_cond (x := C27_12) (y := C27_13) rfl (fun c25 => ?_) (fun c25 => ?_)
    · have hF := ite_t c25 hF
      refine at_skip ?_
      refine atn_seq ?_
      refine at_seq (a := C27_15) (b := C27_19) ?_
      refine at_block (x := C27_16) ?_
      refine at_seq (a := C27_17) (b := C27_18) ?_
      refine at_ops (l := O27_17) ?_
      refine xo (e_mv' (v := AV.int .i64 t6) h6) ?_
      refine xo (e_mv' (v := AV.int .i64 t6) rfl) ?_
      refine ato_nil ?_
      refine atn_seq ?_
      refine at_draw0 (q := Q27_18) (suf := S27_18) ?_
      refine xd rfl (e_mv' (v := AV.int .i64 t6) rfl) ?_
      obtain ⟨g26, hF⟩ := grd_some hF
      refine xd rfl (e_iaddrA h2 o0 rfl g26) ?_
      obtain ⟨v27, g28, hF⟩ := bind_some hF
      refine xd rfl (e_load1 rfl o0 (LR.comp (LR.whole _ _) (lr_get (cI_len .u64) g28))) ?_
      refine xd rfl (e_mv' (v := AV.int .i64 t6) rfl) ?_
      obtain ⟨g29, hF⟩ := grd_some hF
      refine xd rfl (e_iaddrA h3 o1 rfl g29) ?_
      obtain ⟨v30, g31, hF⟩ := bind_some hF
      refine xd rfl (e_load1 rfl o1 (LR.comp (LR.whole _ _) (lr_get (cI_len .u64) g31))) ?_
      refine xd rfl (e_bin rfl rfl (op_or _ _ _)) ?_
      obtain ⟨g32, hF⟩ := grd_some hF
      refine xd rfl (e_iaddrA h2 o0 rfl g32) ?_
      refine atd_nil ?_
      obtain ⟨y33, g34⟩ := ix_in a g32 rfl
      refine xo_store rfl o0 (LR.comp (LR.whole _ _) (lr_set (cI_len .u64) g34 (orI .u64 v27 v30))) ((cI_len .u64) _) rfl rfl ((cI_len .u64) _) ((cI_one .u64) _) fun s35 o36 k37 => ?_
      have o38 := k37 _ _ o1 (Ne.symm n0_1)
      have o39 := k37 _ _ o2 (Ne.symm n0_2)
      refine ato_nil ?_
      refine atn_blk ?_
      refine atn_seq ?_
      refine at_ops (l := O27_19) ?_
      refine xo (e_bin (v := .int .i64 (IntKind.wrap .i64 (t6 + 1))) h6 rfl rfl) ?_
      refine xo (e_mv' (v := AV.int .i64 (IntKind.wrap .i64 (t6 + 1))) rfl) ?_
      refine ato_nil ?_
      refine atn_lp ?_
      exact ih (.p1 (IntKind.wrap .i64 (t6 + 1)) (aset a t6 (orI .u64 v27 v30)) b t4) _ hF _ _ _ _ _ h2 h3 h4 rfl o36 o38 o39 n0_1 n0_2 n1_2
    · have hF := ite_f c25 hF
      refine at_exit ?_
      refine atx (k' := [.seq C27_20]) rfl ?_
      refine atn_seq ?_
      refine at_seq (a := C27_21) (b := C27_22) ?_
      refine at_ops (l := O27_21) ?_
      refine xo (e_loadN h2 o0 (LR.whole _ _) (c24_len _)) ?_
      refine xo_store h4 o2 (LR.whole _ _) (c24_len _) rfl rfl (c24_len _) (c24_one _) fun s40 o41 k42 => ?_
      refine ato_nil ?_
      refine atn_seq ?_
      refine at_ret ?_
      cases hF
      exact atr (rl_cellN h4 o41 (LR.whole _ _) (c24_len _) rl_nil) (isd (ds_eq rfl (ds_agg (c24_ds _))))
noncomputable def F27 (a : Arr 4 Int) (b : Arr 4 Int) : Option (Arr 4 Int) :=
  (G27 (.p1 0 a b (Arr.rep 4 0)))
theorem d27 (a : Arr 4 Int) (b : Arr 4 Int) (r : Arr 4 Int) (hF : F27 a b = some r) : DFun Try.prog noG 27 [AV.agg (c24 a), AV.agg (c24 b)] (AV.agg (c24 r)) := by
  unfold F27 at hF
  refine dfun_at k27 (Nat.le_of_ble_eq_true rfl) ?_
  show At (X27 r) _ _ _ _
  refine at_seq (a := C27_2) (b := C27_3) ?_
  refine at_ops (l := O27_2) ?_
  refine xo_box (cs := c24 a) rfl rfl (c24_len _) fun s2 i3 o4 k5 q6 => ?_
  refine xo_box (cs := c24 b) rfl rfl (c24_len _) fun s8 i9 o10 k11 q12 => ?_
  have n13 : i3 ≠ i9 := fun e => ne_new o4 (e.trans q12)
  have o14 := keep0 k11 o4
  refine xo_alloc (cs := c24 (Arr.rep 4 0)) rfl fun s16 i17 o18 k19 q20 => ?_
  have n21 : i3 ≠ i17 := fun e => ne_new o14 (e.trans q20)
  have n22 : i9 ≠ i17 := fun e => ne_new o10 (e.trans q20)
  have o23 := keep0 k19 o14
  have o24 := keep0 k19 o10
  refine ato_nil ?_
  refine atn_seq ?_
  refine at_seq (a := C27_4) (b := C27_20) ?_
  refine at_seq (a := C27_5) (b := C27_6) ?_
  refine at_ops (l := O27_5) ?_
  refine xo (e_mv' (v := AV.int .i64 0) rfl) ?_
  refine ato_nil ?_
  refine atn_seq ?_
  refine at_block (x := C27_7) ?_
  refine at_loop (b := C27_8) ?_
  exact w27 (.p1 0 a b (Arr.rep 4 0)) _ hF _ _ _ _ _ rfl rfl rfl rfl o23 o24 o18 n13 n21 n22
end Go.Proofs.Ytfjdegohjnejkaa
