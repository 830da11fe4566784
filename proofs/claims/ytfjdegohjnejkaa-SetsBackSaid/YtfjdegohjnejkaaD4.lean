/-
  Functions of the program's as plain functions.
-/
import Derived.Test.YtfjdegohjnejkaaD3
set_option linter.unusedVariables false
set_option maxRecDepth 4000
set_option maxHeartbeats 4000000
namespace Go.Proofs.Ytfjdegohjnejkaa
open Go AW
attribute [local irreducible] At AtL AtO AtN AtX AtR AtD XS XLoop DFun XCall
/-! ### 23: paddock/paddockref07.Bracket -/
def O23_2 : List AOp := [⟨(.some 2), .none, (.plain (.alloc [(.int .u64 0), (.int .u64 0), (.int .u64 0), (.int .u64 0)]))⟩, ⟨(.some 3), .none, (.plain (.mv (.c (.int .i64 0))))⟩, ⟨(.some 4), .none, (.plain (.mv (.c (.int .i64 0))))⟩, ⟨(.some 5), .none, (.plain (.mv (.c (.int .i64 0))))⟩]
def C23_2 : ACode := .ops O23_2
def O23_4 : List AOp := [⟨(.some 6), .none, (.plain (.mv (.c (.int .i64 0))))⟩]
def C23_4 : ACode := .ops O23_4
def O23_6_1 : List AOp := ⟨(.some 7), .none, (.plain (.mv (.t 21)))⟩ :: []
def O23_6 : List AOp := ⟨(.some 14), .none, (.plain (.mv (.t 0)))⟩ :: ⟨(.some 15), .none, (.plain (.lenS (.t 14)))⟩ :: ⟨(.some 16), .none, (.plain (.binI .gtr (.t 15) (.c (.int .i64 0))))⟩ :: ⟨(.some 17), .none, (.plain (.mv (.t 16)))⟩ :: ⟨(.some 18), (.some (17, true)), (.plain (.mv (.t 0)))⟩ :: ⟨(.some 19), (.some (17, true)), (.plain (.ixS (.t 18) (.c (.int .i64 0))))⟩ :: ⟨(.some 20), (.some (17, true)), (.plain (.binI .eql (.t 19) (.c (.int .u8 94))))⟩ :: ⟨(.some 21), .none, (.plain (.pick (.t 17) (.t 20) (.c (.bool false))))⟩ :: O23_6_1
def C23_6 : ACode := .ops O23_6
def O23_9 : List AOp := [⟨(.some 22), .none, (.plain (.mv (.t 7)))⟩]
def C23_9 : ACode := .ops O23_9
def O23_11 : List AOp := [⟨(.some 6), .none, (.plain (.mv (.c (.int .i64 1))))⟩]
def C23_11 : ACode := .ops O23_11
def C23_12 : ACode := .skip
def C23_10 : ACode := .cond (.t 22) C23_11 C23_12
def C23_8 : ACode := .seq C23_9 C23_10
def O23_14 : List AOp := [⟨(.some 23), .none, (.plain (.mv (.t 6)))⟩, ⟨(.some 8), .none, (.plain (.mv (.t 23)))⟩]
def C23_14 : ACode := .ops O23_14
def O23_16 : List AOp := [⟨(.some 9), .none, (.plain (.alloc [(.int .u64 0), (.int .u64 0), (.int .u64 0), (.int .u64 0)]))⟩]
def C23_16 : ACode := .ops O23_16
def O23_22 : List AOp := [⟨(.some 24), .none, (.plain (.mv (.t 6)))⟩, ⟨(.some 25), .none, (.plain (.mv (.t 0)))⟩, ⟨(.some 26), .none, (.plain (.lenS (.t 25)))⟩, ⟨(.some 27), .none, (.plain (.binI .lss (.t 24) (.t 26)))⟩]
def C23_22 : ACode := .ops O23_22
def C23_24 : ACode := .skip
def C23_25 : ACode := .exit 0
def C23_23 : ACode := .cond (.t 27) C23_24 C23_25
def C23_21 : ACode := .seq C23_22 C23_23
def O23_29_1 : List AOp := ⟨(.some 36), .none, (.plain (.pick (.t 32) (.t 35) (.c (.bool false))))⟩ :: []
def O23_29 : List AOp := ⟨(.some 28), .none, (.plain (.mv (.t 0)))⟩ :: ⟨(.some 29), .none, (.plain (.mv (.t 6)))⟩ :: ⟨(.some 30), .none, (.plain (.ixS (.t 28) (.t 29)))⟩ :: ⟨(.some 31), .none, (.plain (.binI .eql (.t 30) (.c (.int .u8 93))))⟩ :: ⟨(.some 32), .none, (.plain (.mv (.t 31)))⟩ :: ⟨(.some 33), (.some (32, true)), (.plain (.mv (.t 6)))⟩ :: ⟨(.some 34), (.some (32, true)), (.plain (.mv (.t 8)))⟩ :: ⟨(.some 35), (.some (32, true)), (.plain (.binI .gtr (.t 33) (.t 34)))⟩ :: O23_29_1
def C23_29 : ACode := .ops O23_29
def O23_33 : List AOp := [⟨(.some 37), .none, (.plain (.mv (.t 7)))⟩]
def C23_33 : ACode := .ops O23_33
def O23_35 : List AOp := [⟨(.some 38), .none, (.plain (.loadN 4 (.t 9)))⟩, ⟨(.some 39), .none, (.call 30 [(.t 38)])⟩, ⟨.none, .none, (.plain (.store 4 (.t 9) (.t 39)))⟩]
def C23_35 : ACode := .ops O23_35
def C23_36 : ACode := .skip
def C23_34 : ACode := .cond (.t 37) C23_35 C23_36
def C23_32 : ACode := .seq C23_33 C23_34
def O23_38 : List AOp := [⟨(.some 40), .none, (.plain (.loadN 4 (.t 9)))⟩, ⟨(.some 41), .none, (.plain (.mv (.t 6)))⟩, ⟨(.some 42), .none, (.plain (.binI .add (.t 41) (.c (.int .i64 1))))⟩, ⟨.none, .none, (.plain (.store 4 (.t 2) (.t 40)))⟩, ⟨(.some 3), .none, (.plain (.mv (.t 42)))⟩, ⟨(.some 4), .none, (.plain (.mv (.c (.int .i64 0))))⟩, ⟨(.some 5), .none, (.plain (.mv (.c (.int .i64 0))))⟩]
def C23_38 : ACode := .ops O23_38
def C23_39 : ACode := .ret
def C23_37 : ACode := .seq C23_38 C23_39
def C23_31 : ACode := .seq C23_32 C23_37
def C23_40 : ACode := .skip
def C23_30 : ACode := .cond (.t 36) C23_31 C23_40
def C23_28 : ACode := .seq C23_29 C23_30
def O23_42_1 : List AOp := ⟨(.some 10), .none, (.plain (.alloc [(.int .u64 0), (.int .u64 0), (.int .u64 0), (.int .u64 0)]))⟩ :: ⟨.none, .none, (.plain (.store 4 (.t 10) (.t 47)))⟩ :: ⟨(.some 11), .none, (.plain (.mv (.t 48)))⟩ :: ⟨(.some 12), .none, (.plain (.mv (.t 49)))⟩ :: ⟨(.some 13), .none, (.plain (.mv (.t 50)))⟩ :: []
def O23_42 : List AOp := ⟨(.some 44), .none, (.plain (.mv (.t 0)))⟩ :: ⟨(.some 45), .none, (.plain (.mv (.t 6)))⟩ :: ⟨(.some 46), .none, (.call 40 [(.t 44), (.t 45)])⟩ :: ⟨(.some 43), .none, (.plain (.mv (.t 46)))⟩ :: ⟨(.some 47), .none, (.plain (.extract (.t 43) 0))⟩ :: ⟨(.some 48), .none, (.plain (.extract (.t 43) 1))⟩ :: ⟨(.some 49), .none, (.plain (.extract (.t 43) 2))⟩ :: ⟨(.some 50), .none, (.plain (.extract (.t 43) 3))⟩ :: O23_42_1
def C23_42 : ACode := .ops O23_42
def O23_45 : List AOp := [⟨(.some 51), .none, (.plain (.mv (.t 13)))⟩, ⟨(.some 52), .none, (.plain (.un .not (.t 51)))⟩]
def C23_45 : ACode := .ops O23_45
def O23_48 : List AOp := [⟨(.some 53), .none, (.plain (.build [(.int .u64 0), (.int .u64 0), (.int .u64 0), (.int .u64 0)] []))⟩, ⟨(.some 54), .none, (.plain (.mv (.t 12)))⟩, ⟨.none, .none, (.plain (.store 4 (.t 2) (.t 53)))⟩, ⟨(.some 3), .none, (.plain (.mv (.c (.int .i64 0))))⟩, ⟨(.some 4), .none, (.plain (.mv (.c (.int .i64 70))))⟩, ⟨(.some 5), .none, (.plain (.mv (.t 54)))⟩]
def C23_48 : ACode := .ops O23_48
def C23_49 : ACode := .ret
def C23_47 : ACode := .seq C23_48 C23_49
def C23_50 : ACode := .skip
def C23_46 : ACode := .cond (.t 52) C23_47 C23_50
def C23_44 : ACode := .seq C23_45 C23_46
def O23_52 : List AOp := [⟨(.some 55), .none, (.plain (.loadN 4 (.t 9)))⟩, ⟨(.some 56), .none, (.plain (.loadN 4 (.t 10)))⟩, ⟨(.some 57), .none, (.call 28 [(.t 55), (.t 56)])⟩, ⟨.none, .none, (.plain (.store 4 (.t 9) (.t 57)))⟩]
def C23_52 : ACode := .ops O23_52
def O23_53 : List AOp := [⟨(.some 58), .none, (.plain (.mv (.t 11)))⟩, ⟨(.some 6), .none, (.plain (.mv (.t 58)))⟩]
def C23_53 : ACode := .ops O23_53
def C23_51 : ACode := .seq C23_52 C23_53
def C23_43 : ACode := .seq C23_44 C23_51
def C23_41 : ACode := .seq C23_42 C23_43
def C23_27 : ACode := .seq C23_28 C23_41
def C23_26 : ACode := .block 1 C23_27
def C23_20 : ACode := .seq C23_21 C23_26
def C23_19 : ACode := .loop C23_20
def C23_18 : ACode := .block 0 C23_19
def O23_55 : List AOp := [⟨(.some 59), .none, (.plain (.build [(.int .u64 0), (.int .u64 0), (.int .u64 0), (.int .u64 0)] []))⟩, ⟨(.some 60), .none, (.plain (.mv (.t 0)))⟩, ⟨(.some 61), .none, (.plain (.lenS (.t 60)))⟩, ⟨.none, .none, (.plain (.store 4 (.t 2) (.t 59)))⟩, ⟨(.some 3), .none, (.plain (.mv (.c (.int .i64 0))))⟩, ⟨(.some 4), .none, (.plain (.mv (.c (.int .i64 70))))⟩, ⟨(.some 5), .none, (.plain (.mv (.t 61)))⟩]
def C23_55 : ACode := .ops O23_55
def C23_56 : ACode := .ret
def C23_54 : ACode := .seq C23_55 C23_56
def C23_17 : ACode := .seq C23_18 C23_54
def C23_15 : ACode := .seq C23_16 C23_17
def C23_13 : ACode := .seq C23_14 C23_15
def C23_7 : ACode := .seq C23_8 C23_13
def C23_5 : ACode := .seq C23_6 C23_7
def C23_3 : ACode := .seq C23_4 C23_5
def C23_1 : ACode := .seq C23_2 C23_3
def R23 : List RA := [(.cellN 2 4), (.tmp 3), (.tmp 4), (.tmp 5)]
theorem k23 : compF Try.prog (muL []) 23 = some ⟨62, C23_1, R23⟩ := by kernel_rfl
noncomputable def X23 (r : Arr 4 Int × Int × Int × Int) : Cx := ⟨Try.prog, noG, 62, muL [], R23, isD (fun x => x = AV.tup [AV.agg (c24 r.1), AV.int .i64 r.2.1, AV.int .i64 r.2.2.1, AV.int .i64 r.2.2.2])⟩
inductive St23 where
  | p1 (s : Str) (i : Int) (not_ : Bool) (t2 : Arr 4 Int)
  | p2 (s : Str) (i : Int) (not_ : Bool) (t2 : Arr 4 Int)
  | p3 (s : Str) (i : Int) (not_ : Bool) (first : Int) (t2 : Arr 4 Int) (set : Arr 4 Int)
  | p4 (i : Int) (t2 : Arr 4 Int) (set : Arr 4 Int)
  | p5 (s : Str) (i : Int) (not_ : Bool) (first : Int) (t2 : Arr 4 Int) (set : Arr 4 Int)
noncomputable def G23 : St23 → Option (Arr 4 Int × Int × Int × Int)
  | .p1 s i not_ t2 =>
    (if not_ = true then
      (G23 (.p2 s 1 not_ t2))
    else
      (G23 (.p2 s i not_ t2)))
  | .p2 s i not_ t2 =>
    (G23 (.p3 s i not_ i t2 (Arr.rep 4 0)))
  | .p3 s i not_ first t2 set =>
    (if (decide (i < ((s).length : Int))) = true then
      (ix s i >>= fun b20 =>
        (if ((b20.toNat : Int) == 93) = true then
          (if (decide (i > first)) = true then
            (if not_ = true then
              (F30 set >>= fun r25 =>
                (G23 (.p4 i t2 r25)))
            else
              (G23 (.p4 i t2 set)))
          else
            (G23 (.p5 s i not_ first t2 set)))
        else
          (G23 (.p5 s i not_ first t2 set))))
    else
      (some ((Arr.rep 4 0), 0, 70, ((s).length : Int))))
  | .p4 i t2 set =>
    (some (set, IntKind.wrap .i64 (i + 1), 0, 0))
  | .p5 s i not_ first t2 set =>
    (F40 s i >>= fun r37 =>
      (if (!r37.2.2.2) = true then
        (some ((Arr.rep 4 0), 0, 70, r37.2.2.1))
      else
        (F28 set r37.1 >>= fun r58 =>
          (G23 (.p3 s r37.2.1 not_ first t2 r58)))))
  partial_fixpoint
def M23 (x : St23) (r : Arr 4 Int × Int × Int × Int) : Prop := match x with
  | .p1 s i not_ t2 => ∀ (tm : Fr) (st : Store) (i0 : Nat), tm 0 = AV.str s → tm 2 = .ptr i0 0 → tm 6 = AV.int .i64 i → tm 7 = AV.bool not_ → st[i0]? = some (.cells (c24 t2)) → At (X23 r) C23_7 [] tm st
  | .p2 s i not_ t2 => ∀ (tm : Fr) (st : Store) (i0 : Nat), tm 0 = AV.str s → tm 2 = .ptr i0 0 → tm 6 = AV.int .i64 i → tm 7 = AV.bool not_ → st[i0]? = some (.cells (c24 t2)) → At (X23 r) C23_13 [] tm st
  | .p3 s i not_ first t2 set => ∀ (tm : Fr) (st : Store) (i0 : Nat) (i1 : Nat), tm 0 = AV.str s → tm 2 = .ptr i0 0 → tm 6 = AV.int .i64 i → tm 7 = AV.bool not_ → tm 8 = AV.int .i64 first → tm 9 = .ptr i1 0 → st[i0]? = some (.cells (c24 t2)) → st[i1]? = some (.cells (c24 set)) → i0 ≠ i1 → AtL (X23 r) C23_20 [.blk 0, .seq C23_54] tm st
  | .p4 i t2 set => ∀ (tm : Fr) (st : Store) (i0 : Nat) (i1 : Nat), tm 2 = .ptr i0 0 → tm 6 = AV.int .i64 i → tm 9 = .ptr i1 0 → st[i0]? = some (.cells (c24 t2)) → st[i1]? = some (.cells (c24 set)) → i0 ≠ i1 → At (X23 r) C23_37 [.seq C23_41, .blk 1, .lp C23_20, .blk 0, .seq C23_54] tm st
  | .p5 s i not_ first t2 set => ∀ (tm : Fr) (st : Store) (i0 : Nat) (i1 : Nat), tm 0 = AV.str s → tm 2 = .ptr i0 0 → tm 6 = AV.int .i64 i → tm 7 = AV.bool not_ → tm 8 = AV.int .i64 first → tm 9 = .ptr i1 0 → st[i0]? = some (.cells (c24 t2)) → st[i1]? = some (.cells (c24 set)) → i0 ≠ i1 → At (X23 r) C23_41 [.blk 1, .lp C23_20, .blk 0, .seq C23_54] tm st
theorem w23 : ∀ (x : St23) (r : Arr 4 Int × Int × Int × Int), G23 x = some r → M23 x r := by
  refine G23.partial_correctness M23 ?_
  intro g ih x r hF
  cases x with
  | p1 s i not_ t2 =>
    dsimp only at hF
    intro tm st i0 h0 h2 h6 h7 o0
    refine at_seq (a := C23_8) (b := C23_13) ?_
    refine at_seq (a := C23_9) (b := C23_10) ?_
    refine at_ops (l := O23_9) ?_
    refine xo (e_mv' (v := AV.bool not_) h7) ?_
    refine ato_nil ?_
    refine atn_seq ?_
    refine at_cond (x := C23_11) (y := C23_12) rfl (fun c10 => ?_) (fun c10 => ?_)
    · have hF := ite_t c10 hF
      refine at_ops (l := O23_11) ?_
      refine xo (e_mv' (v := AV.int .i64 1) rfl) ?_
      refine ato_nil ?_
      refine atn_seq ?_
      exact ih (.p2 s 1 not_ t2) _ hF _ _ _ h0 h2 rfl h7 o0
    · have hF := ite_f c10 hF
      refine at_skip ?_
      refine atn_seq ?_
      exact ih (.p2 s i not_ t2) _ hF _ _ _ h0 h2 h6 h7 o0
  | p2 s i not_ t2 =>
    dsimp only at hF
    intro tm st i0 h0 h2 h6 h7 o0
    refine at_seq (a := C23_14) (b := C23_15) ?_
    refine at_ops (l := O23_14) ?_
    refine xo (e_mv' (v := AV.int .i64 i) h6) ?_
    refine xo (e_mv' (v := AV.int .i64 i) rfl) ?_
    refine ato_nil ?_
    refine atn_seq ?_
    refine at_seq (a := C23_16) (b := C23_17) ?_
    refine at_ops (l := O23_16) ?_
    refine xo_alloc (cs := c24 (Arr.rep 4 0)) rfl fun s12 i13 o14 k15 q16 => ?_
    have n17 : i0 ≠ i13 := fun e => ne_new o0 (e.trans q16)
    have o18 := keep0 k15 o0
    refine ato_nil ?_
    refine atn_seq ?_
    refine at_seq (a := C23_18) (b := C23_54) ?_
    refine at_block (x := C23_19) ?_
    refine at_loop (b := C23_20) ?_
    exact ih (.p3 s i not_ i t2 (Arr.rep 4 0)) _ hF _ _ _ _ h0 h2 h6 h7 rfl rfl o18 o14 n17
  | p3 s i not_ first t2 set =>
    dsimp only at hF
    intro tm st i0 i1 h0 h2 h6 h7 h8 h9 o0 o1 n0_1
    refine atl_once ?_
    refine at_seq (a := C23_21) (b := C23_26) ?_
    refine at_seq (a := C23_22) (b := C23_23) ?_
    refine at_ops (l := O23_22) ?_
    refine xo (e_mv' (v := AV.int .i64 i) h6) ?_
    refine xo (e_mv' (v := AV.str s) h0) ?_
    refine xo (e_lenS rfl) ?_
    refine xo (e_bin (v := .bool (decide (i < ((s).length : Int)))) rfl rfl rfl) ?_
    refine ato_nil ?_
    refine atn_seq ?_
    refine at_cond (x := C23_24) (y := C23_25) rfl (fun c19 => ?_) (fun c19 => ?_)
    · have hF := ite_t c19 hF
      refine at_skip ?_
      refine atn_seq ?_
      refine at_block (x := C23_27) ?_
      refine at_seq (a := C23_28) (b := C23_41) ?_
      refine at_seq (a := C23_29) (b := C23_30) ?_
      refine at_ops (l := O23_29) ?_
      refine xo (e_mv' (v := AV.str s) h0) ?_
      refine xo (e_mv' (v := AV.int .i64 i) h6) ?_
      obtain ⟨b20, g21, hF⟩ := bind_some hF
      refine xo (e_ixS rfl rfl g21) ?_
      refine xo (e_bin (v := .bool (((b20.toNat : Int) == 93))) rfl rfl rfl) ?_
      refine xo (e_mv' (v := AV.bool ((b20.toNat : Int) == 93)) rfl) ?_
      refine bsplit (b := ((b20.toNat : Int) == 93)) (fun c22 => ?_) (fun c22 => ?_)
      · have hF := ite_t c22 hF
        refine xo_on rfl c22 ?_
        refine xo (e_mv' (v := AV.int .i64 i) h6) ?_
        refine xo_on rfl c22 ?_
        refine xo (e_mv' (v := AV.int .i64 first) h8) ?_
        refine xo_on rfl c22 ?_
        refine xo (e_bin (v := .bool (decide (i > first))) rfl rfl rfl) ?_
        refine xo (e_pick_t (v := AV.bool (decide (i > first))) rfl c22 rfl) ?_
        refine ato_nil ?_
        refine atn_seq ?_
        refine at_cond (x := C23_31) (y := C23_40) rfl (fun c23 => ?_) (fun c23 => ?_)
        · have hF := ite_t c23 hF
          refine at_seq (a := C23_32) (b := C23_37) ?_
          refine at_seq (a := C23_33) (b := C23_34) ?_
          refine at_ops (l := O23_33) ?_
          refine xo (e_mv' (v := AV.bool not_) h7) ?_
          refine ato_nil ?_
          refine atn_seq ?_
          refine at_cond (x := C23_35) (y := C23_36) rfl (fun c24 => ?_) (fun c24 => ?_)
          · have hF := ite_t c24 hF
            refine at_ops (l := O23_35) ?_
            refine xo (e_loadN h9 o1 (LR.whole _ _) (c24_len _)) ?_
            obtain ⟨r25, g26, hF⟩ := bind_some hF
            refine xo_dfun' (d30 set _ g26) (dsl_cons (ds_eq rfl (ds_agg (c24_ds _))) dsl_nil) ?_
            refine xo_store h9 o1 (LR.whole _ _) (c24_len _) rfl rfl (c24_len _) (c24_one _) fun s27 o28 k29 => ?_
            have o30 := k29 _ _ o0 n0_1
            refine ato_nil ?_
            refine atn_seq ?_
            exact ih (.p4 i t2 r25) _ hF _ _ _ _ h2 h6 h9 o30 o28 n0_1
          · have hF := ite_f c24 hF
            refine at_skip ?_
            refine atn_seq ?_
            exact ih (.p4 i t2 set) _ hF _ _ _ _ h2 h6 h9 o0 o1 n0_1
        · have hF := ite_f c23 hF
          refine at_skip ?_
          refine atn_seq ?_
          exact ih (.p5 s i not_ first t2 set) _ hF _ _ _ _ h0 h2 h6 h7 h8 h9 o0 o1 n0_1
      · have hF := ite_f c22 hF
        refine xo_off rfl c22 ?_
        refine xo_off rfl c22 ?_
        refine xo_off rfl c22 ?_
        refine xo (e_pick_f (v := AV.bool false) rfl c22 rfl) ?_
        refine ato_nil ?_
        refine atn_seq ?_
        refine at_cond_f (x := C23_31) (y := C23_40) rfl rfl ?_
        refine at_skip ?_
        refine atn_seq ?_
        exact ih (.p5 s i not_ first t2 set) _ hF _ _ _ _ h0 h2 h6 h7 h8 h9 o0 o1 n0_1
    · have hF := ite_f c19 hF
      refine at_exit ?_
      refine atx (k' := [.seq C23_54]) rfl ?_
      refine atn_seq ?_
      refine at_seq (a := C23_55) (b := C23_56) ?_
      refine at_ops (l := O23_55) ?_
      refine xo (e_build (z := [(.int .u64 0), (.int .u64 0), (.int .u64 0), (.int .u64 0)]) (cs := c24 (Arr.rep 4 0)) pk_nil (show fillA (c24 (Arr.rep 4 0)) _ = _ from (fl_nil _))) ?_
      refine xo (e_mv' (v := AV.str s) h0) ?_
      refine xo (e_lenS rfl) ?_
      refine xo_store h2 o0 (LR.whole _ _) (c24_len _) rfl rfl (c24_len _) (c24_one _) fun s31 o32 k33 => ?_
      refine xo (e_mv' (v := AV.int .i64 0) rfl) ?_
      refine xo (e_mv' (v := AV.int .i64 70) rfl) ?_
      refine xo (e_mv' (v := AV.int .i64 ((s).length : Int)) rfl) ?_
      refine ato_nil ?_
      refine atn_seq ?_
      refine at_ret ?_
      cases hF
      exact atr (rl_cellN h2 o32 (LR.whole _ _) (c24_len _) (rl_tmp rfl (rl_tmp rfl (rl_tmp rfl rl_nil)))) (isd (ds_tup (dsl_cons (ds_eq rfl (ds_agg (c24_ds _))) (dsl_cons (ds_eq rfl ds_i) (dsl_cons (ds_eq rfl ds_i) (dsl_cons (ds_eq rfl ds_i) dsl_nil))))))
  | p4 i t2 set =>
    dsimp only at hF
    intro tm st i0 i1 h2 h6 h9 o0 o1 n0_1
    refine at_seq (a := C23_38) (b := C23_39) ?_
    refine at_ops (l := O23_38) ?_
    refine xo (e_loadN h9 o1 (LR.whole _ _) (c24_len _)) ?_
    refine xo (e_mv' (v := AV.int .i64 i) h6) ?_
    refine xo (e_bin (v := .int .i64 (IntKind.wrap .i64 (i + 1))) rfl rfl rfl) ?_
    refine xo_store h2 o0 (LR.whole _ _) (c24_len _) rfl rfl (c24_len _) (c24_one _) fun s34 o35 k36 => ?_
    refine xo (e_mv' (v := AV.int .i64 (IntKind.wrap .i64 (i + 1))) rfl) ?_
    refine xo (e_mv' (v := AV.int .i64 0) rfl) ?_
    refine xo (e_mv' (v := AV.int .i64 0) rfl) ?_
    refine ato_nil ?_
    refine atn_seq ?_
    refine at_ret ?_
    cases hF
    exact atr (rl_cellN h2 o35 (LR.whole _ _) (c24_len _) (rl_tmp rfl (rl_tmp rfl (rl_tmp rfl rl_nil)))) (isd (ds_tup (dsl_cons (ds_eq rfl (ds_agg (c24_ds _))) (dsl_cons (ds_eq rfl ds_i) (dsl_cons (ds_eq rfl ds_i) (dsl_cons (ds_eq rfl ds_i) dsl_nil))))))
  | p5 s i not_ first t2 set =>
    dsimp only at hF
    intro tm st i0 i1 h0 h2 h6 h7 h8 h9 o0 o1 n0_1
    refine at_seq (a := C23_42) (b := C23_43) ?_
    refine at_ops (l := O23_42) ?_
    refine xo (e_mv' (v := AV.str s) h0) ?_
    refine xo (e_mv' (v := AV.int .i64 i) h6) ?_
    obtain ⟨r37, g38, hF⟩ := bind_some hF
    refine xo_dfun' (d40 s i _ g38) (dsl_cons (ds_eq rfl ds_s) (dsl_cons (ds_eq rfl ds_i) dsl_nil)) ?_
    refine xo (e_mv' (v := AV.tup [AV.agg (c24 r37.1), AV.int .i64 r37.2.1, AV.int .i64 r37.2.2.1, AV.bool r37.2.2.2]) rfl) ?_
    refine xo (e_extract (v := AV.agg (c24 r37.1)) rfl rfl) ?_
    refine xo (e_extract (v := AV.int .i64 r37.2.1) rfl rfl) ?_
    refine xo (e_extract (v := AV.int .i64 r37.2.2.1) rfl rfl) ?_
    refine xo (e_extract (v := AV.bool r37.2.2.2) rfl rfl) ?_
    refine xo_alloc (cs := c24 (Arr.rep 4 0)) rfl fun s40 i41 o42 k43 q44 => ?_
    have n45 : i0 ≠ i41 := fun e => ne_new o0 (e.trans q44)
    have n46 : i1 ≠ i41 := fun e => ne_new o1 (e.trans q44)
    have o47 := keep0 k43 o0
    have o48 := keep0 k43 o1
    refine xo_store rfl o42 (LR.whole _ _) (c24_len _) rfl rfl (c24_len _) (c24_one _) fun s49 o50 k51 => ?_
    have o52 := k51 _ _ o47 n45
    have o53 := k51 _ _ o48 n46
    refine xo (e_mv' (v := AV.int .i64 r37.2.1) rfl) ?_
    refine xo (e_mv' (v := AV.int .i64 r37.2.2.1) rfl) ?_
    refine xo (e_mv' (v := AV.bool r37.2.2.2) rfl) ?_
    refine ato_nil ?_
    refine atn_seq ?_
    refine at_seq (a := C23_44) (b := C23_51) ?_
    refine at_seq (a := C23_45) (b := C23_46) ?_
    refine at_ops (l := O23_45) ?_
    refine xo (e_mv' (v := AV.bool r37.2.2.2) rfl) ?_
    refine xo (e_not rfl) ?_
    refine ato_nil ?_
    refine atn_seq ?_
    refine at_cond (x := C23_47) (y := C23_50) rfl (fun c54 => ?_) (fun c54 => ?_)
    · have hF := ite_t c54 hF
      refine at_seq (a := C23_48) (b := C23_49) ?_
      refine at_ops (l := O23_48) ?_
      refine xo (e_build (z := [(.int .u64 0), (.int .u64 0), (.int .u64 0), (.int .u64 0)]) (cs := c24 (Arr.rep 4 0)) pk_nil (show fillA (c24 (Arr.rep 4 0)) _ = _ from (fl_nil _))) ?_
      refine xo (e_mv' (v := AV.int .i64 r37.2.2.1) rfl) ?_
      refine xo_store h2 o52 (LR.whole _ _) (c24_len _) rfl rfl (c24_len _) (c24_one _) fun s55 o56 k57 => ?_
      refine xo (e_mv' (v := AV.int .i64 0) rfl) ?_
      refine xo (e_mv' (v := AV.int .i64 70) rfl) ?_
      refine xo (e_mv' (v := AV.int .i64 r37.2.2.1) rfl) ?_
      refine ato_nil ?_
      refine atn_seq ?_
      refine at_ret ?_
      cases hF
      exact atr (rl_cellN h2 o56 (LR.whole _ _) (c24_len _) (rl_tmp rfl (rl_tmp rfl (rl_tmp rfl rl_nil)))) (isd (ds_tup (dsl_cons (ds_eq rfl (ds_agg (c24_ds _))) (dsl_cons (ds_eq rfl ds_i) (dsl_cons (ds_eq rfl ds_i) (dsl_cons (ds_eq rfl ds_i) dsl_nil))))))
    · have hF := ite_f c54 hF
      refine at_skip ?_
      refine atn_seq ?_
      refine at_seq (a := C23_52) (b := C23_53) ?_
      refine at_ops (l := O23_52) ?_
      refine xo (e_loadN h9 o53 (LR.whole _ _) (c24_len _)) ?_
      refine xo (e_loadN rfl o50 (LR.whole _ _) (c24_len _)) ?_
      obtain ⟨r58, g59, hF⟩ := bind_some hF
      refine xo_dfun' (d28 set r37.1 _ g59) (dsl_cons (ds_eq rfl (ds_agg (c24_ds _))) (dsl_cons (ds_eq rfl (ds_agg (c24_ds _))) dsl_nil)) ?_
      refine xo_store h9 o53 (LR.whole _ _) (c24_len _) rfl rfl (c24_len _) (c24_one _) fun s60 o61 k62 => ?_
      have o63 := k62 _ _ o52 n0_1
      refine ato_nil ?_
      refine atn_seq ?_
      refine at_ops (l := O23_53) ?_
      refine xo (e_mv' (v := AV.int .i64 r37.2.1) rfl) ?_
      refine xo (e_mv' (v := AV.int .i64 r37.2.1) rfl) ?_
      refine ato_nil ?_
      refine atn_blk ?_
      refine atn_lp ?_
      exact ih (.p3 s r37.2.1 not_ first t2 r58) _ hF _ _ _ _ h0 h2 rfl h7 h8 h9 o63 o61 n0_1
noncomputable def F23 (s : Str) : Option (Arr 4 Int × Int × Int × Int) :=
  (if (decide (((s).length : Int) > 0)) = true then
    (ix s 0 >>= fun b8 =>
      (G23 (.p1 s 0 ((b8.toNat : Int) == 94) (Arr.rep 4 0))))
  else
    (G23 (.p1 s 0 false (Arr.rep 4 0))))
theorem d23 (s : Str) (r : Arr 4 Int × Int × Int × Int) (hF : F23 s = some r) : DFun Try.prog noG 23 [AV.str s] (AV.tup [AV.agg (c24 r.1), AV.int .i64 r.2.1, AV.int .i64 r.2.2.1, AV.int .i64 r.2.2.2]) := by
  unfold F23 at hF
  refine dfun_at k23 (Nat.le_of_ble_eq_true rfl) ?_
  show At (X23 r) _ _ _ _
  refine at_seq (a := C23_2) (b := C23_3) ?_
  refine at_ops (l := O23_2) ?_
  refine xo_alloc (cs := c24 (Arr.rep 4 0)) rfl fun s2 i3 o4 k5 q6 => ?_
  refine xo (e_mv' (v := AV.int .i64 0) rfl) ?_
  refine xo (e_mv' (v := AV.int .i64 0) rfl) ?_
  refine xo (e_mv' (v := AV.int .i64 0) rfl) ?_
  refine ato_nil ?_
  refine atn_seq ?_
  refine at_seq (a := C23_4) (b := C23_5) ?_
  refine at_ops (l := O23_4) ?_
  refine xo (e_mv' (v := AV.int .i64 0) rfl) ?_
  refine ato_nil ?_
  refine atn_seq ?_
  refine at_seq (a := C23_6) (b := C23_7) ?_
  refine at_ops (l := O23_6) ?_
  refine xo (e_mv' (v := AV.str s) rfl) ?_
  refine xo (e_lenS rfl) ?_
  refine xo (e_bin (v := .bool (decide (((s).length : Int) > 0))) rfl rfl rfl) ?_
  refine xo (e_mv' (v := AV.bool (decide (((s).length : Int) > 0))) rfl) ?_
  refine bsplit (b := decide (((s).length : Int) > 0)) (fun c7 => ?_) (fun c7 => ?_)
  · have hF := ite_t c7 hF
    refine xo_on rfl c7 ?_
    refine xo (e_mv' (v := AV.str s) rfl) ?_
    obtain ⟨b8, g9, hF⟩ := bind_some hF
    refine xo_on rfl c7 ?_
    refine xo (e_ixS rfl rfl g9) ?_
    refine xo_on rfl c7 ?_
    refine xo (e_bin (v := .bool (((b8.toNat : Int) == 94))) rfl rfl rfl) ?_
    refine xo (e_pick_t (v := AV.bool ((b8.toNat : Int) == 94)) rfl c7 rfl) ?_
    refine xo (e_mv' (v := AV.bool ((b8.toNat : Int) == 94)) rfl) ?_
    refine ato_nil ?_
    refine atn_seq ?_
    exact w23 (.p1 s 0 ((b8.toNat : Int) == 94) (Arr.rep 4 0)) _ hF _ _ _ rfl rfl rfl rfl o4
  · have hF := ite_f c7 hF
    refine xo_off rfl c7 ?_
    refine xo_off rfl c7 ?_
    refine xo_off rfl c7 ?_
    refine xo (e_pick_f (v := AV.bool false) rfl c7 rfl) ?_
    refine xo (e_mv' (v := AV.bool false) rfl) ?_
    refine ato_nil ?_
    refine atn_seq ?_
    exact w23 (.p1 s 0 false (Arr.rep 4 0)) _ hF _ _ _ rfl rfl rfl rfl o4
/-! ### 34: paddock/sets.classes -/
def O34_2 : List AOp := [⟨(.some 0), .none, (.plain (.mv (.c .nilmp)))⟩]
def C34_2 : ACode := .ops O34_2
def O34_4_1 : List AOp := ⟨.none, .none, (.plain (.store 4 (.t 3) (.t 9)))⟩ :: []
def O34_4 : List AOp := ⟨(.some 7), .none, (.call 20 [(.c (.int .u8 65)), (.c (.int .u8 90))])⟩ :: ⟨(.some 8), .none, (.call 20 [(.c (.int .u8 97)), (.c (.int .u8 122))])⟩ :: ⟨(.some 9), .none, (.call 20 [(.c (.int .u8 48)), (.c (.int .u8 57))])⟩ :: ⟨(.some 1), .none, (.plain (.alloc [(.int .u64 0), (.int .u64 0), (.int .u64 0), (.int .u64 0)]))⟩ :: ⟨(.some 2), .none, (.plain (.alloc [(.int .u64 0), (.int .u64 0), (.int .u64 0), (.int .u64 0)]))⟩ :: ⟨(.some 3), .none, (.plain (.alloc [(.int .u64 0), (.int .u64 0), (.int .u64 0), (.int .u64 0)]))⟩ :: ⟨.none, .none, (.plain (.store 4 (.t 1) (.t 7)))⟩ :: ⟨.none, .none, (.plain (.store 4 (.t 2) (.t 8)))⟩ :: O34_4_1
def C34_4 : ACode := .ops O34_4
def O34_6 : List AOp := [⟨(.some 10), .none, (.plain (.loadN 4 (.t 1)))⟩, ⟨(.some 11), .none, (.plain (.loadN 4 (.t 2)))⟩, ⟨(.some 12), .none, (.call 27 [(.t 10), (.t 11)])⟩, ⟨(.some 4), .none, (.plain (.alloc [(.int .u64 0), (.int .u64 0), (.int .u64 0), (.int .u64 0)]))⟩, ⟨.none, .none, (.plain (.store 4 (.t 4) (.t 12)))⟩]
def C34_6 : ACode := .ops O34_6
def O34_8 : List AOp := [⟨(.some 13), .none, (.plain (.loadN 4 (.t 4)))⟩, ⟨(.some 14), .none, (.plain (.loadN 4 (.t 3)))⟩, ⟨(.some 15), .none, (.call 27 [(.t 13), (.t 14)])⟩, ⟨(.some 5), .none, (.plain (.alloc [(.int .u64 0), (.int .u64 0), (.int .u64 0), (.int .u64 0)]))⟩, ⟨.none, .none, (.plain (.store 4 (.t 5) (.t 15)))⟩]
def C34_8 : ACode := .ops O34_8
def O34_10 : List AOp := [⟨(.some 16), .none, (.call 20 [(.c (.int .u8 33)), (.c (.int .u8 126))])⟩, ⟨(.some 6), .none, (.plain (.alloc [(.int .u64 0), (.int .u64 0), (.int .u64 0), (.int .u64 0)]))⟩, ⟨.none, .none, (.plain (.store 4 (.t 6) (.t 16)))⟩]
def C34_10 : ACode := .ops O34_10
def Q34_12_5 : List AOp := ⟨(.some 45), .none, (.plain (.mv (.t 17)))⟩ :: ⟨(.some 0), .none, (.plain (.mv (.t 45)))⟩ :: []
def Q34_12_4 : List AOp := ⟨.none, .none, (.plain (.mapset .none (.t 17) (.c (.str [112, 114, 105, 110, 116])) (.t 39)))⟩ :: ⟨(.some 40), .none, (.plain (.loadN 4 (.t 6)))⟩ :: ⟨.none, .none, (.plain (.mapset .none (.t 17) (.c (.str [103, 114, 97, 112, 104])) (.t 40)))⟩ :: ⟨(.some 41), .none, (.plain (.loadN 4 (.t 6)))⟩ :: ⟨(.some 42), .none, (.plain (.loadN 4 (.t 5)))⟩ :: ⟨(.some 43), .none, (.call 29 [(.t 42)])⟩ :: ⟨(.some 44), .none, (.call 25 [(.t 41), (.t 43)])⟩ :: ⟨.none, .none, (.plain (.mapset .none (.t 17) (.c (.str [112, 117, 110, 99, 116])) (.t 44)))⟩ :: Q34_12_5
def Q34_12_3 : List AOp := ⟨(.some 34), .none, (.call 27 [(.t 31), (.t 33)])⟩ :: ⟨.none, .none, (.plain (.mapset .none (.t 17) (.c (.str [115, 112, 97, 99, 101])) (.t 34)))⟩ :: ⟨(.some 35), .none, (.call 20 [(.c (.int .u8 0)), (.c (.int .u8 31))])⟩ :: ⟨(.some 36), .none, (.plain (.bslice 1 1 false [(.int .u8 0)] [(0, (1, (.c (.int .u8 127))))] false))⟩ :: ⟨(.some 37), .none, (.call 12 [(.t 36)])⟩ :: ⟨(.some 38), .none, (.call 27 [(.t 35), (.t 37)])⟩ :: ⟨.none, .none, (.plain (.mapset .none (.t 17) (.c (.str [99, 110, 116, 114, 108])) (.t 38)))⟩ :: ⟨(.some 39), .none, (.call 20 [(.c (.int .u8 32)), (.c (.int .u8 126))])⟩ :: Q34_12_4
def Q34_12_2 : List AOp := ⟨.none, .none, (.plain (.mapset .none (.t 17) (.c (.str [120, 100, 105, 103, 105, 116])) (.t 27)))⟩ :: ⟨(.some 28), .none, (.plain (.bslice 1 2 false [(.int .u8 0)] [(0, (1, (.c (.int .u8 32)))), (1, (1, (.c (.int .u8 9))))] false))⟩ :: ⟨(.some 29), .none, (.plain (.cvB (.t 28)))⟩ :: ⟨(.some 30), .none, (.call 12 [(.t 29)])⟩ :: ⟨.none, .none, (.plain (.mapset .none (.t 17) (.c (.str [98, 108, 97, 110, 107])) (.t 30)))⟩ :: ⟨(.some 31), .none, (.call 20 [(.c (.int .u8 9)), (.c (.int .u8 13))])⟩ :: ⟨(.some 32), .none, (.plain (.bslice 1 1 false [(.int .u8 0)] [(0, (1, (.c (.int .u8 32))))] false))⟩ :: ⟨(.some 33), .none, (.call 12 [(.t 32)])⟩ :: Q34_12_3
def Q34_12_1 : List AOp := ⟨.none, .none, (.plain (.mapset .none (.t 17) (.c (.str [100, 105, 103, 105, 116])) (.t 21)))⟩ :: ⟨(.some 22), .none, (.plain (.loadN 4 (.t 5)))⟩ :: ⟨.none, .none, (.plain (.mapset .none (.t 17) (.c (.str [97, 108, 110, 117, 109])) (.t 22)))⟩ :: ⟨(.some 23), .none, (.plain (.loadN 4 (.t 3)))⟩ :: ⟨(.some 24), .none, (.call 20 [(.c (.int .u8 65)), (.c (.int .u8 70))])⟩ :: ⟨(.some 25), .none, (.call 20 [(.c (.int .u8 97)), (.c (.int .u8 102))])⟩ :: ⟨(.some 26), .none, (.call 27 [(.t 24), (.t 25)])⟩ :: ⟨(.some 27), .none, (.call 27 [(.t 23), (.t 26)])⟩ :: Q34_12_2
def Q34_12 : List AOp := ⟨(.some 17), .none, (.plain (.mkmap .none))⟩ :: ⟨(.some 18), .none, (.plain (.loadN 4 (.t 1)))⟩ :: ⟨.none, .none, (.plain (.mapset .none (.t 17) (.c (.str [117, 112, 112, 101, 114])) (.t 18)))⟩ :: ⟨(.some 19), .none, (.plain (.loadN 4 (.t 2)))⟩ :: ⟨.none, .none, (.plain (.mapset .none (.t 17) (.c (.str [108, 111, 119, 101, 114])) (.t 19)))⟩ :: ⟨(.some 20), .none, (.plain (.loadN 4 (.t 4)))⟩ :: ⟨.none, .none, (.plain (.mapset .none (.t 17) (.c (.str [97, 108, 112, 104, 97])) (.t 20)))⟩ :: ⟨(.some 21), .none, (.plain (.loadN 4 (.t 3)))⟩ :: Q34_12_1
def S34_12 : List AOp := []
def C34_12 : ACode := .draw [] 0 4 Q34_12 S34_12
def C34_13 : ACode := .ret
def C34_11 : ACode := .seq C34_12 C34_13
def C34_9 : ACode := .seq C34_10 C34_11
def C34_7 : ACode := .seq C34_8 C34_9
def C34_5 : ACode := .seq C34_6 C34_7
def C34_3 : ACode := .seq C34_4 C34_5
def C34_1 : ACode := .seq C34_2 C34_3
def R34 : List RA := [(.tmp 0)]
theorem k34 : compF Try.prog (muL []) 34 = some ⟨46, C34_1, R34⟩ := by kernel_rfl
noncomputable def X34 (K : AV → Store → Prop) : Cx := ⟨Try.prog, noG, 46, muL [], R34, K⟩
noncomputable def F34  : Option (Mp Str (Arr 4 Int)) :=
  (F20 65 90 >>= fun r1 =>
    (F20 97 122 >>= fun r3 =>
      (F20 48 57 >>= fun r5 =>
        (F27 r1 r3 >>= fun r55 =>
          (F27 r55 r5 >>= fun r78 =>
            (F20 33 126 >>= fun r104 =>
              (if (Mp.get (Mp.empty : Mp Str (Arr 4 Int)) ([117, 112, 112, 101, 114] : Str)).isNone = true then
                (if (Mp.get (Mp.put (Mp.empty : Mp Str (Arr 4 Int)) ([117, 112, 112, 101, 114] : Str) r1) ([108, 111, 119, 101, 114] : Str)).isNone = true then
                  (if (Mp.get (Mp.put (Mp.put (Mp.empty : Mp Str (Arr 4 Int)) ([117, 112, 112, 101, 114] : Str) r1) ([108, 111, 119, 101, 114] : Str) r3) ([97, 108, 112, 104, 97] : Str)).isNone = true then
                    (if (Mp.get (Mp.put (Mp.put (Mp.put (Mp.empty : Mp Str (Arr 4 Int)) ([117, 112, 112, 101, 114] : Str) r1) ([108, 111, 119, 101, 114] : Str) r3) ([97, 108, 112, 104, 97] : Str) r55) ([100, 105, 103, 105, 116] : Str)).isNone = true then
                      (if (Mp.get (Mp.put (Mp.put (Mp.put (Mp.put (Mp.empty : Mp Str (Arr 4 Int)) ([117, 112, 112, 101, 114] : Str) r1) ([108, 111, 119, 101, 114] : Str) r3) ([97, 108, 112, 104, 97] : Str) r55) ([100, 105, 103, 105, 116] : Str) r5) ([97, 108, 110, 117, 109] : Str)).isNone = true then
                        (F20 65 70 >>= fun r228 =>
                          (F20 97 102 >>= fun r230 =>
                            (F27 r228 r230 >>= fun r232 =>
                              (F27 r5 r232 >>= fun r234 =>
                                (if (Mp.get (Mp.put (Mp.put (Mp.put (Mp.put (Mp.put (Mp.empty : Mp Str (Arr 4 Int)) ([117, 112, 112, 101, 114] : Str) r1) ([108, 111, 119, 101, 114] : Str) r3) ([97, 108, 112, 104, 97] : Str) r55) ([100, 105, 103, 105, 116] : Str) r5) ([97, 108, 110, 117, 109] : Str) r78) ([120, 100, 105, 103, 105, 116] : Str)).isNone = true then
                                  (F12 (some ([32, 9] : List Int)) >>= fun r257 =>
                                    (if (Mp.get (Mp.put (Mp.put (Mp.put (Mp.put (Mp.put (Mp.put (Mp.empty : Mp Str (Arr 4 Int)) ([117, 112, 112, 101, 114] : Str) r1) ([108, 111, 119, 101, 114] : Str) r3) ([97, 108, 112, 104, 97] : Str) r55) ([100, 105, 103, 105, 116] : Str) r5) ([97, 108, 110, 117, 109] : Str) r78) ([120, 100, 105, 103, 105, 116] : Str) r234) ([98, 108, 97, 110, 107] : Str)).isNone = true then
                                      (F20 9 13 >>= fun r268 =>
                                        (F12 (some ([32] : List Int)) >>= fun r280 =>
                                          (F27 r268 r280 >>= fun r282 =>
                                            (if (Mp.get (Mp.put (Mp.put (Mp.put (Mp.put (Mp.put (Mp.put (Mp.put (Mp.empty : Mp Str (Arr 4 Int)) ([117, 112, 112, 101, 114] : Str) r1) ([108, 111, 119, 101, 114] : Str) r3) ([97, 108, 112, 104, 97] : Str) r55) ([100, 105, 103, 105, 116] : Str) r5) ([97, 108, 110, 117, 109] : Str) r78) ([120, 100, 105, 103, 105, 116] : Str) r234) ([98, 108, 97, 110, 107] : Str) r257) ([115, 112, 97, 99, 101] : Str)).isNone = true then
                                              (F20 0 31 >>= fun r292 =>
                                                (F12 (some ([127] : List Int)) >>= fun r303 =>
                                                  (F27 r292 r303 >>= fun r305 =>
                                                    (if (Mp.get (Mp.put (Mp.put (Mp.put (Mp.put (Mp.put (Mp.put (Mp.put (Mp.put (Mp.empty : Mp Str (Arr 4 Int)) ([117, 112, 112, 101, 114] : Str) r1) ([108, 111, 119, 101, 114] : Str) r3) ([97, 108, 112, 104, 97] : Str) r55) ([100, 105, 103, 105, 116] : Str) r5) ([97, 108, 110, 117, 109] : Str) r78) ([120, 100, 105, 103, 105, 116] : Str) r234) ([98, 108, 97, 110, 107] : Str) r257) ([115, 112, 97, 99, 101] : Str) r282) ([99, 110, 116, 114, 108] : Str)).isNone = true then
                                                      (F20 32 126 >>= fun r314 =>
                                                        (if (Mp.get (Mp.put (Mp.put (Mp.put (Mp.put (Mp.put (Mp.put (Mp.put (Mp.put (Mp.put (Mp.empty : Mp Str (Arr 4 Int)) ([117, 112, 112, 101, 114] : Str) r1) ([108, 111, 119, 101, 114] : Str) r3) ([97, 108, 112, 104, 97] : Str) r55) ([100, 105, 103, 105, 116] : Str) r5) ([97, 108, 110, 117, 109] : Str) r78) ([120, 100, 105, 103, 105, 116] : Str) r234) ([98, 108, 97, 110, 107] : Str) r257) ([115, 112, 97, 99, 101] : Str) r282) ([99, 110, 116, 114, 108] : Str) r305) ([112, 114, 105, 110, 116] : Str)).isNone = true then
                                                          (if (Mp.get (Mp.put (Mp.put (Mp.put (Mp.put (Mp.put (Mp.put (Mp.put (Mp.put (Mp.put (Mp.put (Mp.empty : Mp Str (Arr 4 Int)) ([117, 112, 112, 101, 114] : Str) r1) ([108, 111, 119, 101, 114] : Str) r3) ([97, 108, 112, 104, 97] : Str) r55) ([100, 105, 103, 105, 116] : Str) r5) ([97, 108, 110, 117, 109] : Str) r78) ([120, 100, 105, 103, 105, 116] : Str) r234) ([98, 108, 97, 110, 107] : Str) r257) ([115, 112, 97, 99, 101] : Str) r282) ([99, 110, 116, 114, 108] : Str) r305) ([112, 114, 105, 110, 116] : Str) r314) ([103, 114, 97, 112, 104] : Str)).isNone = true then
                                                            (F29 r78 >>= fun r330 =>
                                                              (F25 r104 r330 >>= fun r332 =>
                                                                (if (Mp.get (Mp.put (Mp.put (Mp.put (Mp.put (Mp.put (Mp.put (Mp.put (Mp.put (Mp.put (Mp.put (Mp.put (Mp.empty : Mp Str (Arr 4 Int)) ([117, 112, 112, 101, 114] : Str) r1) ([108, 111, 119, 101, 114] : Str) r3) ([97, 108, 112, 104, 97] : Str) r55) ([100, 105, 103, 105, 116] : Str) r5) ([97, 108, 110, 117, 109] : Str) r78) ([120, 100, 105, 103, 105, 116] : Str) r234) ([98, 108, 97, 110, 107] : Str) r257) ([115, 112, 97, 99, 101] : Str) r282) ([99, 110, 116, 114, 108] : Str) r305) ([112, 114, 105, 110, 116] : Str) r314) ([103, 114, 97, 112, 104] : Str) r104) ([112, 117, 110, 99, 116] : Str)).isNone = true then
                                                                  (some (Mp.put (Mp.put (Mp.put (Mp.put (Mp.put (Mp.put (Mp.put (Mp.put (Mp.put (Mp.put (Mp.put (Mp.put (Mp.empty : Mp Str (Arr 4 Int)) ([117, 112, 112, 101, 114] : Str) r1) ([108, 111, 119, 101, 114] : Str) r3) ([97, 108, 112, 104, 97] : Str) r55) ([100, 105, 103, 105, 116] : Str) r5) ([97, 108, 110, 117, 109] : Str) r78) ([120, 100, 105, 103, 105, 116] : Str) r234) ([98, 108, 97, 110, 107] : Str) r257) ([115, 112, 97, 99, 101] : Str) r282) ([99, 110, 116, 114, 108] : Str) r305) ([112, 114, 105, 110, 116] : Str) r314) ([103, 114, 97, 112, 104] : Str) r104) ([112, 117, 110, 99, 116] : Str) r332))
                                                                else none)))
                                                          else none)
                                                        else none))
                                                    else none))))
                                            else none))))
                                    else none))
                                else none)))))
                      else none)
                    else none)
                  else none)
                else none)
              else none)))))))
theorem d34  (r : Mp Str (Arr 4 Int)) (hF : F34  = some r) : ∀ (K : AV → Store → Prop) (st0 : Store), (∀ st' id, Keep (fun _ => False) st0 st' → st'[id]? = some (.map none (mS (fun x => AV.agg (c24 x)) r) r.n) → (∀ j ob, st0[j]? = some ob → j ≠ id) → K (.mp id) st') → XCall Try.prog noG 34 [] st0 K := by
  unfold F34 at hF
  intro K st0 hK
  refine xcall_at k34 (Nat.le_of_ble_eq_true rfl) ?_
  have kp0 := keep_refl (fun _ => False) st0
  show At (X34 K) _ _ _ _
  refine at_seq (a := C34_2) (b := C34_3) ?_
  refine at_ops (l := O34_2) ?_
  refine xo (e_mv' (v := AV.nilmp) rfl) ?_
  refine ato_nil ?_
  refine atn_seq ?_
  refine at_seq (a := C34_4) (b := C34_5) ?_
  refine at_ops (l := O34_4) ?_
  obtain ⟨r1, g2, hF⟩ := bind_some hF
  refine xo_dfun' (d20 65 90 _ g2) (dsl_cons (ds_eq rfl ds_i) (dsl_cons (ds_eq rfl ds_i) dsl_nil)) ?_
  obtain ⟨r3, g4, hF⟩ := bind_some hF
  refine xo_dfun' (d20 97 122 _ g4) (dsl_cons (ds_eq rfl ds_i) (dsl_cons (ds_eq rfl ds_i) dsl_nil)) ?_
  obtain ⟨r5, g6, hF⟩ := bind_some hF
  refine xo_dfun' (d20 48 57 _ g6) (dsl_cons (ds_eq rfl ds_i) (dsl_cons (ds_eq rfl ds_i) dsl_nil)) ?_
  refine xo_alloc (cs := c24 (Arr.rep 4 0)) rfl fun s8 i9 o10 k11 q12 => ?_
  have fr13 := kp_fresh0 kp0 q12
  have kp14 := kp_t0 kp0 k11
  refine xo_alloc (cs := c24 (Arr.rep 4 0)) rfl fun s16 i17 o18 k19 q20 => ?_
  have n21 : i9 ≠ i17 := fun e => ne_new o10 (e.trans q20)
  have fr22 := kp_fresh0 kp14 q20
  have o23 := keep0 k19 o10
  have kp24 := kp_t0 kp14 k19
  refine xo_alloc (cs := c24 (Arr.rep 4 0)) rfl fun s26 i27 o28 k29 q30 => ?_
  have n31 : i9 ≠ i27 := fun e => ne_new o23 (e.trans q30)
  have n32 : i17 ≠ i27 := fun e => ne_new o18 (e.trans q30)
  have fr33 := kp_fresh0 kp24 q30
  have o34 := keep0 k29 o23
  have o35 := keep0 k29 o18
  have kp36 := kp_t0 kp24 k29
  refine xo_store rfl o34 (LR.whole _ _) (c24_len _) rfl rfl (c24_len _) (c24_one _) fun s37 o38 k39 => ?_
  have o40 := k39 _ _ o35 (Ne.symm n21)
  have o41 := k39 _ _ o28 (Ne.symm n31)
  have kp42 := kp_tl kp36 k39 fr13
  refine xo_store rfl o40 (LR.whole _ _) (c24_len _) rfl rfl (c24_len _) (c24_one _) fun s43 o44 k45 => ?_
  have o46 := k45 _ _ o38 n21
  have o47 := k45 _ _ o41 (Ne.symm n32)
  have kp48 := kp_tl kp42 k45 fr22
  refine xo_store rfl o47 (LR.whole _ _) (c24_len _) rfl rfl (c24_len _) (c24_one _) fun s49 o50 k51 => ?_
  have o52 := k51 _ _ o46 n31
  have o53 := k51 _ _ o44 n32
  have kp54 := kp_tl kp48 k51 fr33
  refine ato_nil ?_
  refine atn_seq ?_
  refine at_seq (a := C34_6) (b := C34_7) ?_
  refine at_ops (l := O34_6) ?_
  refine xo (e_loadN rfl o52 (LR.whole _ _) (c24_len _)) ?_
  refine xo (e_loadN rfl o53 (LR.whole _ _) (c24_len _)) ?_
  obtain ⟨r55, g56, hF⟩ := bind_some hF
  refine xo_dfun' (d27 r1 r3 _ g56) (dsl_cons (ds_eq rfl (ds_agg (c24_ds _))) (dsl_cons (ds_eq rfl (ds_agg (c24_ds _))) dsl_nil)) ?_
  refine xo_alloc (cs := c24 (Arr.rep 4 0)) rfl fun s58 i59 o60 k61 q62 => ?_
  have n63 : i9 ≠ i59 := fun e => ne_new o52 (e.trans q62)
  have n64 : i17 ≠ i59 := fun e => ne_new o53 (e.trans q62)
  have n65 : i27 ≠ i59 := fun e => ne_new o50 (e.trans q62)
  have fr66 := kp_fresh0 kp54 q62
  have o67 := keep0 k61 o52
  have o68 := keep0 k61 o53
  have o69 := keep0 k61 o50
  have kp70 := kp_t0 kp54 k61
  refine xo_store rfl o60 (LR.whole _ _) (c24_len _) rfl rfl (c24_len _) (c24_one _) fun s71 o72 k73 => ?_
  have o74 := k73 _ _ o67 n63
  have o75 := k73 _ _ o68 n64
  have o76 := k73 _ _ o69 n65
  have kp77 := kp_tl kp70 k73 fr66
  refine ato_nil ?_
  refine atn_seq ?_
  refine at_seq (a := C34_8) (b := C34_9) ?_
  refine at_ops (l := O34_8) ?_
  refine xo (e_loadN rfl o72 (LR.whole _ _) (c24_len _)) ?_
  refine xo (e_loadN rfl o76 (LR.whole _ _) (c24_len _)) ?_
  obtain ⟨r78, g79, hF⟩ := bind_some hF
  refine xo_dfun' (d27 r55 r5 _ g79) (dsl_cons (ds_eq rfl (ds_agg (c24_ds _))) (dsl_cons (ds_eq rfl (ds_agg (c24_ds _))) dsl_nil)) ?_
  refine xo_alloc (cs := c24 (Arr.rep 4 0)) rfl fun s81 i82 o83 k84 q85 => ?_
  have n86 : i9 ≠ i82 := fun e => ne_new o74 (e.trans q85)
  have n87 : i17 ≠ i82 := fun e => ne_new o75 (e.trans q85)
  have n88 : i27 ≠ i82 := fun e => ne_new o76 (e.trans q85)
  have n89 : i59 ≠ i82 := fun e => ne_new o72 (e.trans q85)
  have fr90 := kp_fresh0 kp77 q85
  have o91 := keep0 k84 o74
  have o92 := keep0 k84 o75
  have o93 := keep0 k84 o76
  have o94 := keep0 k84 o72
  have kp95 := kp_t0 kp77 k84
  refine xo_store rfl o83 (LR.whole _ _) (c24_len _) rfl rfl (c24_len _) (c24_one _) fun s96 o97 k98 => ?_
  have o99 := k98 _ _ o91 n86
  have o100 := k98 _ _ o92 n87
  have o101 := k98 _ _ o93 n88
  have o102 := k98 _ _ o94 n89
  have kp103 := kp_tl kp95 k98 fr90
  refine ato_nil ?_
  refine atn_seq ?_
  refine at_seq (a := C34_10) (b := C34_11) ?_
  refine at_ops (l := O34_10) ?_
  obtain ⟨r104, g105, hF⟩ := bind_some hF
  refine xo_dfun' (d20 33 126 _ g105) (dsl_cons (ds_eq rfl ds_i) (dsl_cons (ds_eq rfl ds_i) dsl_nil)) ?_
  refine xo_alloc (cs := c24 (Arr.rep 4 0)) rfl fun s107 i108 o109 k110 q111 => ?_
  have n112 : i9 ≠ i108 := fun e => ne_new o99 (e.trans q111)
  have n113 : i17 ≠ i108 := fun e => ne_new o100 (e.trans q111)
  have n114 : i27 ≠ i108 := fun e => ne_new o101 (e.trans q111)
  have n115 : i59 ≠ i108 := fun e => ne_new o102 (e.trans q111)
  have n116 : i82 ≠ i108 := fun e => ne_new o97 (e.trans q111)
  have fr117 := kp_fresh0 kp103 q111
  have o118 := keep0 k110 o99
  have o119 := keep0 k110 o100
  have o120 := keep0 k110 o101
  have o121 := keep0 k110 o102
  have o122 := keep0 k110 o97
  have kp123 := kp_t0 kp103 k110
  refine xo_store rfl o109 (LR.whole _ _) (c24_len _) rfl rfl (c24_len _) (c24_one _) fun s124 o125 k126 => ?_
  have o127 := k126 _ _ o118 n112
  have o128 := k126 _ _ o119 n113
  have o129 := k126 _ _ o120 n114
  have o130 := k126 _ _ o121 n115
  have o131 := k126 _ _ o122 n116
  have kp132 := kp_tl kp123 k126 fr117
  refine ato_nil ?_
  refine atn_seq ?_
  refine at_seq (a := C34_12) (b := C34_13) ?_
  refine at_drawn (q := Q34_12) (suf := S34_12) fun s133 k134 u135 => ?_
  have o136 := keep0 k134 o127
  have o137 := keep0 k134 o128
  have o138 := keep0 k134 o129
  have o139 := keep0 k134 o130
  have o140 := keep0 k134 o131
  have o141 := keep0 k134 o125
  have kp142 := kp_t0 kp132 k134
  have w143 := u135 0 (by decide)
  have w144 := u135 1 (by decide)
  have w145 := u135 2 (by decide)
  have w146 := u135 3 (by decide)
  refine xd_mkmapS (fun x => AV.agg (c24 x)) w143 fun s148 i149 q152 o150 k151 => ?_
  have n153 : i9 ≠ i149 := fun e => ne_new2 o127 (e.trans q152)
  have n154 : i17 ≠ i149 := fun e => ne_new2 o128 (e.trans q152)
  have n155 : i27 ≠ i149 := fun e => ne_new2 o129 (e.trans q152)
  have n156 : i59 ≠ i149 := fun e => ne_new2 o130 (e.trans q152)
  have n157 : i82 ≠ i149 := fun e => ne_new2 o131 (e.trans q152)
  have n158 : i108 ≠ i149 := fun e => ne_new2 o125 (e.trans q152)
  have fr159 := kp_fresh02 kp132 q152
  have o160 := k151 _ _ o136 (ne_new2 o127)
  have o161 := k151 _ _ o137 (ne_new2 o128)
  have o162 := k151 _ _ o138 (ne_new2 o129)
  have o163 := k151 _ _ o139 (ne_new2 o130)
  have o164 := k151 _ _ o140 (ne_new2 o131)
  have o165 := k151 _ _ o141 (ne_new2 o125)
  have kp166 := kp_tn kp142 kp132 k151
  have w167 := k151 _ _ w144 (by omega)
  have w168 := k151 _ _ w145 (by omega)
  have w169 := k151 _ _ w146 (by omega)
  refine xd rfl (e_loadN rfl o127 (LR.whole _ _) (c24_len _)) ?_
  obtain ⟨g173, hF⟩ := grd_some hF
  refine xd_mapsetS (f := fun x => AV.agg (c24 x)) rfl q152 rfl rfl o150 g173 fun s170 o171 k172 => ?_
  have o174 := k172 _ _ o161 n154
  have o175 := k172 _ _ o162 n155
  have o176 := k172 _ _ o163 n156
  have o177 := k172 _ _ o164 n157
  have o178 := k172 _ _ o165 n158
  have kp179 := kp_tl kp166 k172 fr159
  have w180 := k172 _ _ w167 (by omega)
  have w181 := k172 _ _ w168 (by omega)
  have w182 := k172 _ _ w169 (by omega)
  refine xd rfl (e_loadN rfl o128 (LR.whole _ _) (c24_len _)) ?_
  obtain ⟨g186, hF⟩ := grd_some hF
  refine xd_mapsetS (f := fun x => AV.agg (c24 x)) rfl q152 rfl rfl o171 g186 fun s183 o184 k185 => ?_
  have o187 := k185 _ _ o175 n155
  have o188 := k185 _ _ o176 n156
  have o189 := k185 _ _ o177 n157
  have o190 := k185 _ _ o178 n158
  have kp191 := kp_tl kp179 k185 fr159
  have w192 := k185 _ _ w180 (by omega)
  have w193 := k185 _ _ w181 (by omega)
  have w194 := k185 _ _ w182 (by omega)
  refine xd rfl (e_loadN rfl o130 (LR.whole _ _) (c24_len _)) ?_
  obtain ⟨g198, hF⟩ := grd_some hF
  refine xd_mapsetS (f := fun x => AV.agg (c24 x)) rfl q152 rfl rfl o184 g198 fun s195 o196 k197 => ?_
  have o199 := k197 _ _ o187 n155
  have o200 := k197 _ _ o189 n157
  have o201 := k197 _ _ o190 n158
  have kp202 := kp_tl kp191 k197 fr159
  have w203 := k197 _ _ w192 (by omega)
  have w204 := k197 _ _ w193 (by omega)
  have w205 := k197 _ _ w194 (by omega)
  refine xd rfl (e_loadN rfl o129 (LR.whole _ _) (c24_len _)) ?_
  obtain ⟨g209, hF⟩ := grd_some hF
  refine xd_mapsetS (f := fun x => AV.agg (c24 x)) rfl q152 rfl rfl o196 g209 fun s206 o207 k208 => ?_
  have o210 := k208 _ _ o199 n155
  have o211 := k208 _ _ o200 n157
  have o212 := k208 _ _ o201 n158
  have kp213 := kp_tl kp202 k208 fr159
  have w214 := k208 _ _ w203 (by omega)
  have w215 := k208 _ _ w204 (by omega)
  have w216 := k208 _ _ w205 (by omega)
  refine xd rfl (e_loadN rfl o131 (LR.whole _ _) (c24_len _)) ?_
  obtain ⟨g220, hF⟩ := grd_some hF
  refine xd_mapsetS (f := fun x => AV.agg (c24 x)) rfl q152 rfl rfl o207 g220 fun s217 o218 k219 => ?_
  have o221 := k219 _ _ o210 n155
  have o222 := k219 _ _ o211 n157
  have o223 := k219 _ _ o212 n158
  have kp224 := kp_tl kp213 k219 fr159
  have w225 := k219 _ _ w214 (by omega)
  have w226 := k219 _ _ w215 (by omega)
  have w227 := k219 _ _ w216 (by omega)
  refine xd rfl (e_loadN rfl o129 (LR.whole _ _) (c24_len _)) ?_
  obtain ⟨r228, g229, hF⟩ := bind_some hF
  refine xd_dfun' (d20 65 70 _ g229) (dsl_cons (ds_eq rfl ds_i) (dsl_cons (ds_eq rfl ds_i) dsl_nil)) ?_
  obtain ⟨r230, g231, hF⟩ := bind_some hF
  refine xd_dfun' (d20 97 102 _ g231) (dsl_cons (ds_eq rfl ds_i) (dsl_cons (ds_eq rfl ds_i) dsl_nil)) ?_
  obtain ⟨r232, g233, hF⟩ := bind_some hF
  refine xd_dfun' (d27 r228 r230 _ g233) (dsl_cons (ds_eq rfl (ds_agg (c24_ds _))) (dsl_cons (ds_eq rfl (ds_agg (c24_ds _))) dsl_nil)) ?_
  obtain ⟨r234, g235, hF⟩ := bind_some hF
  refine xd_dfun' (d27 r5 r232 _ g235) (dsl_cons (ds_eq rfl (ds_agg (c24_ds _))) (dsl_cons (ds_eq rfl (ds_agg (c24_ds _))) dsl_nil)) ?_
  obtain ⟨g239, hF⟩ := grd_some hF
  refine xd_mapsetS (f := fun x => AV.agg (c24 x)) rfl q152 rfl rfl o218 g239 fun s236 o237 k238 => ?_
  have o240 := k238 _ _ o222 n157
  have o241 := k238 _ _ o223 n158
  have kp242 := kp_tl kp224 k238 fr159
  have w243 := k238 _ _ w225 (by omega)
  have w244 := k238 _ _ w226 (by omega)
  have w245 := k238 _ _ w227 (by omega)
  refine xd_bslice (f := AV.int .u8) (m := ([32, 9] : List Int)) (pk_cons (cs := (cI .u8) 32) rfl rfl ((cI_len .u8) _) (by decide) (pk_cons (cs := (cI .u8) 9) rfl rfl ((cI_len .u8) _) (by decide) pk_nil)) rfl rfl rfl w243 fun s246 i247 q250 o248 k249 => ?_
  have o251 := k249 _ _ o240 (ne_new2 o131)
  have o252 := k249 _ _ o241 (ne_new2 o125)
  have o253 := k249 _ _ o237 (by omega)
  have kp254 := kp_tn kp242 kp132 k249
  have w255 := k249 _ _ w244 (by omega)
  have w256 := k249 _ _ w245 (by omega)
  refine xd_cvB rfl o248 ?_
  obtain ⟨r257, g258, hF⟩ := bind_some hF
  refine xd_dfun' (d12 (some ([32, 9] : List Int)) _ g258) (dsl_cons (ds_rd (fun _ => ds_i) (rd_T rfl)) dsl_nil) ?_
  obtain ⟨g262, hF⟩ := grd_some hF
  refine xd_mapsetS (f := fun x => AV.agg (c24 x)) rfl q152 rfl rfl o253 g262 fun s259 o260 k261 => ?_
  have o263 := k261 _ _ o251 n157
  have o264 := k261 _ _ o252 n158
  have kp265 := kp_tl kp254 k261 fr159
  have w266 := k261 _ _ w255 (by omega)
  have w267 := k261 _ _ w256 (by omega)
  obtain ⟨r268, g269, hF⟩ := bind_some hF
  refine xd_dfun' (d20 9 13 _ g269) (dsl_cons (ds_eq rfl ds_i) (dsl_cons (ds_eq rfl ds_i) dsl_nil)) ?_
  refine xd_bslice (f := AV.int .u8) (m := ([32] : List Int)) (pk_cons (cs := (cI .u8) 32) rfl rfl ((cI_len .u8) _) (by decide) pk_nil) rfl rfl rfl w266 fun s270 i271 q274 o272 k273 => ?_
  have o275 := k273 _ _ o263 (ne_new2 o131)
  have o276 := k273 _ _ o264 (ne_new2 o125)
  have o277 := k273 _ _ o260 (by omega)
  have kp278 := kp_tn kp265 kp132 k273
  have w279 := k273 _ _ w267 (by omega)
  obtain ⟨r280, g281, hF⟩ := bind_some hF
  refine xd_dfun' (d12 (some ([32] : List Int)) _ g281) (dsl_cons (ds_rd (fun _ => ds_i) (rd_T rfl)) dsl_nil) ?_
  obtain ⟨r282, g283, hF⟩ := bind_some hF
  refine xd_dfun' (d27 r268 r280 _ g283) (dsl_cons (ds_eq rfl (ds_agg (c24_ds _))) (dsl_cons (ds_eq rfl (ds_agg (c24_ds _))) dsl_nil)) ?_
  obtain ⟨g287, hF⟩ := grd_some hF
  refine xd_mapsetS (f := fun x => AV.agg (c24 x)) rfl q152 rfl rfl o277 g287 fun s284 o285 k286 => ?_
  have o288 := k286 _ _ o275 n157
  have o289 := k286 _ _ o276 n158
  have kp290 := kp_tl kp278 k286 fr159
  have w291 := k286 _ _ w279 (by omega)
  obtain ⟨r292, g293, hF⟩ := bind_some hF
  refine xd_dfun' (d20 0 31 _ g293) (dsl_cons (ds_eq rfl ds_i) (dsl_cons (ds_eq rfl ds_i) dsl_nil)) ?_
  refine xd_bslice (f := AV.int .u8) (m := ([127] : List Int)) (pk_cons (cs := (cI .u8) 127) rfl rfl ((cI_len .u8) _) (by decide) pk_nil) rfl rfl rfl w291 fun s294 i295 q298 o296 k297 => ?_
  have o299 := k297 _ _ o288 (ne_new2 o131)
  have o300 := k297 _ _ o289 (ne_new2 o125)
  have o301 := k297 _ _ o285 (by omega)
  have kp302 := kp_tn kp290 kp132 k297
  obtain ⟨r303, g304, hF⟩ := bind_some hF
  refine xd_dfun' (d12 (some ([127] : List Int)) _ g304) (dsl_cons (ds_rd (fun _ => ds_i) (rd_T rfl)) dsl_nil) ?_
  obtain ⟨r305, g306, hF⟩ := bind_some hF
  refine xd_dfun' (d27 r292 r303 _ g306) (dsl_cons (ds_eq rfl (ds_agg (c24_ds _))) (dsl_cons (ds_eq rfl (ds_agg (c24_ds _))) dsl_nil)) ?_
  obtain ⟨g310, hF⟩ := grd_some hF
  refine xd_mapsetS (f := fun x => AV.agg (c24 x)) rfl q152 rfl rfl o301 g310 fun s307 o308 k309 => ?_
  have o311 := k309 _ _ o299 n157
  have o312 := k309 _ _ o300 n158
  have kp313 := kp_tl kp302 k309 fr159
  obtain ⟨r314, g315, hF⟩ := bind_some hF
  refine xd_dfun' (d20 32 126 _ g315) (dsl_cons (ds_eq rfl ds_i) (dsl_cons (ds_eq rfl ds_i) dsl_nil)) ?_
  obtain ⟨g319, hF⟩ := grd_some hF
  refine xd_mapsetS (f := fun x => AV.agg (c24 x)) rfl q152 rfl rfl o308 g319 fun s316 o317 k318 => ?_
  have o320 := k318 _ _ o311 n157
  have o321 := k318 _ _ o312 n158
  have kp322 := kp_tl kp313 k318 fr159
  refine xd rfl (e_loadN rfl o125 (LR.whole _ _) (c24_len _)) ?_
  obtain ⟨g326, hF⟩ := grd_some hF
  refine xd_mapsetS (f := fun x => AV.agg (c24 x)) rfl q152 rfl rfl o317 g326 fun s323 o324 k325 => ?_
  have o327 := k325 _ _ o320 n157
  have o328 := k325 _ _ o321 n158
  have kp329 := kp_tl kp322 k325 fr159
  refine xd rfl (e_loadN rfl o125 (LR.whole _ _) (c24_len _)) ?_
  refine xd rfl (e_loadN rfl o131 (LR.whole _ _) (c24_len _)) ?_
  obtain ⟨r330, g331, hF⟩ := bind_some hF
  refine xd_dfun' (d29 r78 _ g331) (dsl_cons (ds_eq rfl (ds_agg (c24_ds _))) dsl_nil) ?_
  obtain ⟨r332, g333, hF⟩ := bind_some hF
  refine xd_dfun' (d25 r104 r330 _ g333) (dsl_cons (ds_eq rfl (ds_agg (c24_ds _))) (dsl_cons (ds_eq rfl (ds_agg (c24_ds _))) dsl_nil)) ?_
  obtain ⟨g337, hF⟩ := grd_some hF
  refine xd_mapsetS (f := fun x => AV.agg (c24 x)) rfl q152 rfl rfl o324 g337 fun s334 o335 k336 => ?_
  have kp338 := kp_tl kp329 k336 fr159
  refine xd rfl (e_mv' (v := AV.mp i149) rfl) ?_
  refine xd rfl (e_mv' (v := AV.mp i149) rfl) ?_
  refine atd_nil ?_
  refine ato_nil ?_
  refine atn_seq ?_
  refine at_ret ?_
  cases hF
  exact atr (rl_tmp rfl rl_nil) (hK _ _ kp338 o335 fr159)
/-! ### 9: paddock/sets.Class -/
def O9_2 : List AOp := [⟨(.some 2), .none, (.plain (.alloc [(.int .u64 0), (.int .u64 0), (.int .u64 0), (.int .u64 0)]))⟩, ⟨(.some 3), .none, (.plain (.mv (.c (.bool false))))⟩]
def C9_2 : ACode := .ops O9_2
def O9_4_1 : List AOp := ⟨(.some 5), .none, (.plain (.mv (.t 11)))⟩ :: []
def O9_4 : List AOp := ⟨(.some 7), .none, (.call 34 [])⟩ :: ⟨(.some 8), .none, (.plain (.mv (.t 0)))⟩ :: ⟨(.some 9), .none, (.plain (.lookup .none (.agg [(.int .u64 0), (.int .u64 0), (.int .u64 0), (.int .u64 0)]) true (.t 7) (.t 8)))⟩ :: ⟨(.some 6), .none, (.plain (.mv (.t 9)))⟩ :: ⟨(.some 10), .none, (.plain (.extract (.t 6) 0))⟩ :: ⟨(.some 11), .none, (.plain (.extract (.t 6) 1))⟩ :: ⟨(.some 4), .none, (.plain (.alloc [(.int .u64 0), (.int .u64 0), (.int .u64 0), (.int .u64 0)]))⟩ :: ⟨.none, .none, (.plain (.store 4 (.t 4) (.t 10)))⟩ :: O9_4_1
def C9_4 : ACode := .ops O9_4
def O9_6 : List AOp := [⟨(.some 12), .none, (.plain (.loadN 4 (.t 4)))⟩, ⟨(.some 13), .none, (.plain (.mv (.t 5)))⟩, ⟨.none, .none, (.plain (.store 4 (.t 2) (.t 12)))⟩, ⟨(.some 3), .none, (.plain (.mv (.t 13)))⟩]
def C9_6 : ACode := .ops O9_6
def C9_7 : ACode := .ret
def C9_5 : ACode := .seq C9_6 C9_7
def C9_3 : ACode := .seq C9_4 C9_5
def C9_1 : ACode := .seq C9_2 C9_3
def R9 : List RA := [(.cellN 2 4), (.tmp 3)]
theorem k9 : compF Try.prog (muL []) 9 = some ⟨14, C9_1, R9⟩ := by kernel_rfl
noncomputable def X9 (r : Arr 4 Int × Bool) : Cx := ⟨Try.prog, noG, 14, muL [], R9, isD (fun x => x = AV.tup [AV.agg (c24 r.1), AV.bool r.2])⟩
noncomputable def F9 (name : Str) : Option (Arr 4 Int × Bool) :=
  (F34 >>= fun r7 =>
    (some ((Option.getD (Mp.get r7 name) (Arr.rep 4 0)), (Option.isSome (Mp.get r7 name)))))
theorem d9 (name : Str) (r : Arr 4 Int × Bool) (hF : F9 name = some r) : DFun Try.prog noG 9 [AV.str name] (AV.tup [AV.agg (c24 r.1), AV.bool r.2]) := by
  unfold F9 at hF
  refine dfun_at k9 (Nat.le_of_ble_eq_true rfl) ?_
  show At (X9 r) _ _ _ _
  refine at_seq (a := C9_2) (b := C9_3) ?_
  refine at_ops (l := O9_2) ?_
  refine xo_alloc (cs := c24 (Arr.rep 4 0)) rfl fun s2 i3 o4 k5 q6 => ?_
  refine xo (e_mv' (v := AV.bool false) rfl) ?_
  refine ato_nil ?_
  refine atn_seq ?_
  refine at_seq (a := C9_4) (b := C9_5) ?_
  refine at_ops (l := O9_4) ?_
  obtain ⟨r7, g8, hF⟩ := bind_some hF
  refine xo_callO al_nil (d34 _ g8 _ _ fun s10 i11 k12 o13 fr14 => ?_)
  have n15 : i3 ≠ i11 := fr14 _ _ o4
  have o16 := keep0 k12 o4
  refine xo (e_mv' (v := AV.str name) rfl) ?_
  refine xo (e_lookupS2 (f := fun x => AV.agg (c24 x)) (z := (Arr.rep 4 0)) rfl o13 rfl rfl) ?_
  refine xo (e_mv' (v := AV.tup [AV.agg (c24 (Option.getD (Mp.get r7 name) (Arr.rep 4 0))), AV.bool (Option.isSome (Mp.get r7 name))]) rfl) ?_
  refine xo (e_extract (v := AV.agg (c24 (Option.getD (Mp.get r7 name) (Arr.rep 4 0)))) rfl rfl) ?_
  refine xo (e_extract (v := AV.bool (Option.isSome (Mp.get r7 name))) rfl rfl) ?_
  refine xo_alloc (cs := c24 (Arr.rep 4 0)) rfl fun s18 i19 o20 k21 q22 => ?_
  have n23 : i3 ≠ i19 := fun e => ne_new o16 (e.trans q22)
  have o24 := keep0 k21 o16
  refine xo_store rfl o20 (LR.whole _ _) (c24_len _) rfl rfl (c24_len _) (c24_one _) fun s25 o26 k27 => ?_
  have o28 := k27 _ _ o24 n23
  refine xo (e_mv' (v := AV.bool (Option.isSome (Mp.get r7 name))) rfl) ?_
  refine ato_nil ?_
  refine atn_seq ?_
  refine at_seq (a := C9_6) (b := C9_7) ?_
  refine at_ops (l := O9_6) ?_
  refine xo (e_loadN rfl o26 (LR.whole _ _) (c24_len _)) ?_
  refine xo (e_mv' (v := AV.bool (Option.isSome (Mp.get r7 name))) rfl) ?_
  refine xo_store rfl o28 (LR.whole _ _) (c24_len _) rfl rfl (c24_len _) (c24_one _) fun s29 o30 k31 => ?_
  refine xo (e_mv' (v := AV.bool (Option.isSome (Mp.get r7 name))) rfl) ?_
  refine ato_nil ?_
  refine atn_seq ?_
  refine at_ret ?_
  cases hF
  exact atr (rl_cellN rfl o30 (LR.whole _ _) (c24_len _) (rl_tmp rfl rl_nil)) (isd (ds_tup (dsl_cons (ds_eq rfl (ds_agg (c24_ds _))) (dsl_cons (ds_eq rfl ds_b) dsl_nil))))
/-! ### 39: (*paddock/sets.reader).fail -/
def O39_2 : List AOp := [⟨(.some 4), .none, (.plain (.alloc [(.int .u64 0), (.int .u64 0), (.int .u64 0), (.int .u64 0), (.int .u8 0), (.bool false)]))⟩]
def C39_2 : ACode := .ops O39_2
def O39_5 : List AOp := [⟨(.some 5), .none, (.plain (.mv (.t 0)))⟩, ⟨(.some 6), .none, (.plain (.nilck (.t 5)))⟩, ⟨(.some 7), .none, (.plain (.faddr 2 (.t 6)))⟩, ⟨(.some 8), .none, (.plain (.load1 (.t 7)))⟩, ⟨(.some 9), .none, (.plain (.binI .lss (.t 8) (.c (.int .i64 0))))⟩]
def C39_5 : ACode := .ops O39_5
def O39_7 : List AOp := [⟨(.some 10), .none, (.plain (.mv (.t 0)))⟩, ⟨(.some 11), .none, (.plain (.mv (.t 1)))⟩, ⟨(.some 12), .none, (.plain (.nilck (.t 10)))⟩, ⟨(.some 13), .none, (.plain (.faddr 2 (.t 12)))⟩, ⟨.none, .none, (.plain (.store 1 (.t 13) (.t 11)))⟩]
def C39_7 : ACode := .ops O39_7
def C39_8 : ACode := .skip
def C39_6 : ACode := .cond (.t 9) C39_7 C39_8
def C39_4 : ACode := .seq C39_5 C39_6
def O39_10 : List AOp := [⟨(.some 14), .none, (.plain (.build [(.int .u64 0), (.int .u64 0), (.int .u64 0), (.int .u64 0), (.int .u8 0), (.bool false)] []))⟩, ⟨.none, .none, (.plain (.store 6 (.t 4) (.t 14)))⟩]
def C39_10 : ACode := .ops O39_10
def C39_11 : ACode := .ret
def C39_9 : ACode := .seq C39_10 C39_11
def C39_3 : ACode := .seq C39_4 C39_9
def C39_1 : ACode := .seq C39_2 C39_3
def R39 : List RA := [(.cellN 4 6)]
theorem k39 : compF Try.prog (muL []) 39 = some ⟨15, C39_1, R39⟩ := by kernel_rfl
noncomputable def X39 (K : AV → Store → Prop) : Cx := ⟨Try.prog, noG, 15, muL [], R39, isK K⟩
noncomputable def F39 (r_ : T52) (at_ : Int) : Option (T54 × T52) :=
  (if (decide (r_.bad < 0)) = true then
    (some (({ set := (Arr.rep 4 0), c := 0, one := false } : T54), ({ r_ with bad := at_ } : T52)))
  else
    (some (({ set := (Arr.rep 4 0), c := 0, one := false } : T54), r_)))
theorem d39 (r_ : T52) (at_ : Int) (r : T54 × T52) (hF : F39 r_ at_ = some r) : ∀ (K : AV → Store → Prop) (st0 : Store) (ia : Nat), st0[ia]? = some (.cells (c52 r_)) → (∀ st', Keep (fun j => j = ia) st0 st' → st'[ia]? = some (.cells (c52 r.2)) → K (AV.agg (c54 r.1)) st') → XCall Try.prog noG 39 [.ptr ia 0, AV.int .i64 at_] st0 K := by
  unfold F39 at hF
  intro K st0 ia ho hK
  refine xcallO_at k39 (Nat.le_of_ble_eq_true rfl) ?_
  have kp0 := keep_refl (fun j => j = ia) st0
  show At (X39 K) _ _ _ _
  refine at_seq (a := C39_2) (b := C39_3) ?_
  refine at_ops (l := O39_2) ?_
  refine xo_alloc (cs := c54 ({ set := (Arr.rep 4 0), c := 0, one := false } : T54)) rfl fun s2 i3 o4 k5 q6 => ?_
  have n7 : ia ≠ i3 := fun e => ne_new ho (e.trans q6)
  have fr8 := kp_fresh kp0 ho q6
  have o9 := keep0 k5 ho
  have kp10 := kp_t0 kp0 k5
  refine ato_nil ?_
  refine atn_seq ?_
  refine at_seq (a := C39_4) (b := C39_9) ?_
  refine at_seq (a := C39_5) (b := C39_6) ?_
  refine at_ops (l := O39_5) ?_
  refine xo (e_mv' (v := AV.ptr ia 0) rfl) ?_
  refine xo (e_nilck rfl o9) ?_
  refine xo (e_faddr rfl o9) ?_
  refine xo (e_load1 rfl o9 (LR.comp (LR.whole _ _) (lr52_bad r_ r_.bad))) ?_
  refine xo (e_bin (v := .bool (decide (r_.bad < 0))) rfl rfl rfl) ?_
  refine ato_nil ?_
  refine atn_seq ?_
  refine at_cond (x := C39_7) (y := C39_8) rfl (fun c11 => ?_) (fun c11 => ?_)
  · have hF := ite_t c11 hF
    refine at_ops (l := O39_7) ?_
    refine xo (e_mv' (v := AV.ptr ia 0) rfl) ?_
    refine xo (e_mv' (v := AV.int .i64 at_) rfl) ?_
    refine xo (e_nilck rfl o9) ?_
    refine xo (e_faddr rfl o9) ?_
    refine xo_store rfl o9 (LR.comp (LR.whole _ _) (lr52_bad r_ at_)) ((cI_len .i64) _) rfl rfl ((cI_len .i64) _) ((cI_one .i64) _) fun s12 o13 k14 => ?_
    have o15 := k14 _ _ o4 (Ne.symm n7)
    have kp16 := kp_tb kp10 k14 rfl
    refine ato_nil ?_
    refine atn_seq ?_
    refine at_seq (a := C39_10) (b := C39_11) ?_
    refine at_ops (l := O39_10) ?_
    refine xo (e_build (z := [(.int .u64 0), (.int .u64 0), (.int .u64 0), (.int .u64 0), (.int .u8 0), (.bool false)]) (cs := c54 ({ set := (Arr.rep 4 0), c := 0, one := false } : T54)) pk_nil (show fillA (c54 ({ set := (Arr.rep 4 0), c := 0, one := false } : T54)) _ = _ from (fl_nil _))) ?_
    refine xo_store rfl o15 (LR.whole _ _) (c54_len _) rfl rfl (c54_len _) (c54_one _) fun s17 o18 k19 => ?_
    have o20 := k19 _ _ o13 n7
    have kp21 := kp_tl kp16 k19 fr8
    refine ato_nil ?_
    refine atn_seq ?_
    refine at_ret ?_
    cases hF
    exact atr (rl_cellN rfl o18 (LR.whole _ _) (c54_len _) rl_nil) (isk (ds_eq rfl (ds_agg (c54_ds _))) (hK _ kp21 o20))
  · have hF := ite_f c11 hF
    refine at_skip ?_
    refine atn_seq ?_
    refine at_seq (a := C39_10) (b := C39_11) ?_
    refine at_ops (l := O39_10) ?_
    refine xo (e_build (z := [(.int .u64 0), (.int .u64 0), (.int .u64 0), (.int .u64 0), (.int .u8 0), (.bool false)]) (cs := c54 ({ set := (Arr.rep 4 0), c := 0, one := false } : T54)) pk_nil (show fillA (c54 ({ set := (Arr.rep 4 0), c := 0, one := false } : T54)) _ = _ from (fl_nil _))) ?_
    refine xo_store rfl o4 (LR.whole _ _) (c54_len _) rfl rfl (c54_len _) (c54_one _) fun s22 o23 k24 => ?_
    have o25 := k24 _ _ o9 n7
    have kp26 := kp_tl kp10 k24 fr8
    refine ato_nil ?_
    refine atn_seq ?_
    refine at_ret ?_
    cases hF
    exact atr (rl_cellN rfl o23 (LR.whole _ _) (c54_len _) rl_nil) (isk (ds_eq rfl (ds_agg (c54_ds _))) (hK _ kp26 o25))
/-! ### 44: (*paddock/sets.reader).named -/
def O44_2 : List AOp := [⟨(.some 2), .none, (.plain (.alloc [(.int .u64 0), (.int .u64 0), (.int .u64 0), (.int .u64 0), (.int .u8 0), (.bool false)]))⟩]
def C44_2 : ACode := .ops O44_2
def O44_4 : List AOp := [⟨(.some 9), .none, (.plain (.mv (.t 0)))⟩, ⟨(.some 10), .none, (.plain (.nilck (.t 9)))⟩, ⟨(.some 11), .none, (.plain (.faddr 1 (.t 10)))⟩, ⟨(.some 12), .none, (.plain (.load1 (.t 11)))⟩, ⟨(.some 3), .none, (.plain (.mv (.t 12)))⟩]
def C44_4 : ACode := .ops O44_4
def O44_6 : List AOp := [⟨(.some 13), .none, (.plain (.mv (.t 0)))⟩, ⟨(.some 14), .none, (.plain (.nilck (.t 13)))⟩, ⟨(.some 15), .none, (.plain (.faddr 0 (.t 14)))⟩, ⟨(.some 16), .none, (.plain (.load1 (.t 15)))⟩, ⟨(.some 17), .none, (.plain (.mv (.t 3)))⟩, ⟨(.some 18), .none, (.plain (.binI .add (.t 17) (.c (.int .i64 1))))⟩, ⟨(.some 19), .none, (.plain (.ixS (.t 16) (.t 18)))⟩, ⟨(.some 4), .none, (.plain (.mv (.t 19)))⟩]
def C44_6 : ACode := .ops O44_6
def O44_9 : List AOp := [⟨(.some 20), .none, (.plain (.mv (.t 4)))⟩, ⟨(.some 21), .none, (.plain (.binI .eql (.t 20) (.c (.int .u8 58))))⟩]
def C44_9 : ACode := .ops O44_9
def O44_13 : List AOp := [⟨(.some 22), .none, (.plain (.mv (.t 3)))⟩, ⟨(.some 23), .none, (.plain (.binI .add (.t 22) (.c (.int .i64 2))))⟩, ⟨(.some 5), .none, (.plain (.mv (.t 23)))⟩]
def C44_13 : ACode := .ops O44_13
def O44_18 : List AOp := [⟨(.some 24), .none, (.plain (.mv (.t 5)))⟩, ⟨(.some 25), .none, (.plain (.mv (.t 0)))⟩, ⟨(.some 26), .none, (.plain (.nilck (.t 25)))⟩, ⟨(.some 27), .none, (.plain (.faddr 0 (.t 26)))⟩, ⟨(.some 28), .none, (.plain (.load1 (.t 27)))⟩, ⟨(.some 29), .none, (.plain (.lenS (.t 28)))⟩, ⟨(.some 30), .none, (.plain (.binI .lss (.t 24) (.t 29)))⟩]
def C44_18 : ACode := .ops O44_18
def C44_20 : ACode := .skip
def C44_21 : ACode := .exit 0
def C44_19 : ACode := .cond (.t 30) C44_20 C44_21
def C44_17 : ACode := .seq C44_18 C44_19
def O44_26 : List AOp := [⟨(.some 33), .none, (.plain (.mv (.t 0)))⟩, ⟨(.some 34), .none, (.plain (.nilck (.t 33)))⟩, ⟨(.some 35), .none, (.plain (.faddr 0 (.t 34)))⟩, ⟨(.some 36), .none, (.plain (.load1 (.t 35)))⟩, ⟨(.some 37), .none, (.plain (.mv (.t 5)))⟩, ⟨(.some 38), .none, (.plain (.ixS (.t 36) (.t 37)))⟩, ⟨(.some 39), .none, (.plain (.binI .neq (.t 38) (.c (.int .u8 58))))⟩]
def C44_26 : ACode := .ops O44_26
def C44_28 : ACode := .exit 1
def C44_29 : ACode := .skip
def C44_27 : ACode := .cond (.t 39) C44_28 C44_29
def C44_25 : ACode := .seq C44_26 C44_27
def O44_31_1 : List AOp := ⟨(.some 49), .none, (.call 9 [(.t 48)])⟩ :: ⟨(.some 40), .none, (.plain (.mv (.t 49)))⟩ :: ⟨(.some 50), .none, (.plain (.extract (.t 40) 0))⟩ :: ⟨(.some 51), .none, (.plain (.extract (.t 40) 1))⟩ :: ⟨(.some 6), .none, (.plain (.alloc [(.int .u64 0), (.int .u64 0), (.int .u64 0), (.int .u64 0)]))⟩ :: ⟨.none, .none, (.plain (.store 4 (.t 6) (.t 50)))⟩ :: ⟨(.some 7), .none, (.plain (.mv (.t 51)))⟩ :: []
def O44_31 : List AOp := ⟨(.some 41), .none, (.plain (.mv (.t 0)))⟩ :: ⟨(.some 42), .none, (.plain (.nilck (.t 41)))⟩ :: ⟨(.some 43), .none, (.plain (.faddr 0 (.t 42)))⟩ :: ⟨(.some 44), .none, (.plain (.load1 (.t 43)))⟩ :: ⟨(.some 45), .none, (.plain (.mv (.t 3)))⟩ :: ⟨(.some 46), .none, (.plain (.binI .add (.t 45) (.c (.int .i64 2))))⟩ :: ⟨(.some 47), .none, (.plain (.mv (.t 5)))⟩ :: ⟨(.some 48), .none, (.plain (.slS (.t 44) (.some (.t 46)) (.some (.t 47))))⟩ :: O44_31_1
def C44_31 : ACode := .ops O44_31
def O44_34_2 : List AOp := ⟨(.some 68), (.some (64, false)), (.plain (.load1 (.t 67)))⟩ :: ⟨(.some 69), (.some (64, false)), (.plain (.mv (.t 5)))⟩ :: ⟨(.some 70), (.some (64, false)), (.plain (.binI .add (.t 69) (.c (.int .i64 1))))⟩ :: ⟨(.some 71), (.some (64, false)), (.plain (.ixS (.t 68) (.t 70)))⟩ :: ⟨(.some 72), (.some (64, false)), (.plain (.binI .neq (.t 71) (.c (.int .u8 93))))⟩ :: ⟨(.some 73), .none, (.plain (.pick (.t 64) (.c (.bool true)) (.t 72)))⟩ :: []
def O44_34_1 : List AOp := ⟨(.some 60), (.some (54, false)), (.plain (.load1 (.t 59)))⟩ :: ⟨(.some 61), (.some (54, false)), (.plain (.lenS (.t 60)))⟩ :: ⟨(.some 62), (.some (54, false)), (.plain (.binI .geq (.t 56) (.t 61)))⟩ :: ⟨(.some 63), .none, (.plain (.pick (.t 54) (.c (.bool true)) (.t 62)))⟩ :: ⟨(.some 64), .none, (.plain (.mv (.t 63)))⟩ :: ⟨(.some 65), (.some (64, false)), (.plain (.mv (.t 0)))⟩ :: ⟨(.some 66), (.some (64, false)), (.plain (.nilck (.t 65)))⟩ :: ⟨(.some 67), (.some (64, false)), (.plain (.faddr 0 (.t 66)))⟩ :: O44_34_2
def O44_34 : List AOp := ⟨(.some 52), .none, (.plain (.mv (.t 7)))⟩ :: ⟨(.some 53), .none, (.plain (.un .not (.t 52)))⟩ :: ⟨(.some 54), .none, (.plain (.mv (.t 53)))⟩ :: ⟨(.some 55), (.some (54, false)), (.plain (.mv (.t 5)))⟩ :: ⟨(.some 56), (.some (54, false)), (.plain (.binI .add (.t 55) (.c (.int .i64 1))))⟩ :: ⟨(.some 57), (.some (54, false)), (.plain (.mv (.t 0)))⟩ :: ⟨(.some 58), (.some (54, false)), (.plain (.nilck (.t 57)))⟩ :: ⟨(.some 59), (.some (54, false)), (.plain (.faddr 0 (.t 58)))⟩ :: O44_34_1
def C44_34 : ACode := .ops O44_34
def O44_37 : List AOp := [⟨(.some 74), .none, (.plain (.mv (.t 0)))⟩, ⟨(.some 75), .none, (.plain (.mv (.t 3)))⟩, ⟨(.some 76), .none, (.call 39 [(.t 74), (.t 75)])⟩, ⟨.none, .none, (.plain (.store 6 (.t 2) (.t 76)))⟩]
def C44_37 : ACode := .ops O44_37
def C44_38 : ACode := .ret
def C44_36 : ACode := .seq C44_37 C44_38
def C44_39 : ACode := .skip
def C44_35 : ACode := .cond (.t 73) C44_36 C44_39
def C44_33 : ACode := .seq C44_34 C44_35
def O44_41 : List AOp := [⟨(.some 77), .none, (.plain (.mv (.t 0)))⟩, ⟨(.some 78), .none, (.plain (.mv (.t 5)))⟩, ⟨(.some 79), .none, (.plain (.binI .add (.t 78) (.c (.int .i64 2))))⟩, ⟨(.some 80), .none, (.plain (.nilck (.t 77)))⟩, ⟨(.some 81), .none, (.plain (.faddr 1 (.t 80)))⟩, ⟨.none, .none, (.plain (.store 1 (.t 81) (.t 79)))⟩]
def C44_41 : ACode := .ops O44_41
def O44_43 : List AOp := [⟨(.some 82), .none, (.plain (.loadN 4 (.t 6)))⟩, ⟨(.some 83), .none, (.plain (.build [(.int .u64 0), (.int .u64 0), (.int .u64 0), (.int .u64 0), (.int .u8 0), (.bool false)] [(0, (4, (.t 82)))]))⟩, ⟨.none, .none, (.plain (.store 6 (.t 2) (.t 83)))⟩]
def C44_43 : ACode := .ops O44_43
def C44_44 : ACode := .ret
def C44_42 : ACode := .seq C44_43 C44_44
def C44_40 : ACode := .seq C44_41 C44_42
def C44_32 : ACode := .seq C44_33 C44_40
def C44_30 : ACode := .seq C44_31 C44_32
def C44_24 : ACode := .seq C44_25 C44_30
def C44_23 : ACode := .block 1 C44_24
def O44_45 : List AOp := [⟨(.some 31), .none, (.plain (.mv (.t 5)))⟩, ⟨(.some 32), .none, (.plain (.binI .add (.t 31) (.c (.int .i64 1))))⟩, ⟨(.some 5), .none, (.plain (.mv (.t 32)))⟩]
def C44_45 : ACode := .ops O44_45
def C44_22 : ACode := .seq C44_23 C44_45
def C44_16 : ACode := .seq C44_17 C44_22
def C44_15 : ACode := .loop C44_16
def C44_14 : ACode := .block 0 C44_15
def C44_12 : ACode := .seq C44_13 C44_14
def O44_47 : List AOp := [⟨(.some 84), .none, (.plain (.mv (.t 0)))⟩, ⟨(.some 85), .none, (.plain (.mv (.t 3)))⟩, ⟨(.some 86), .none, (.call 39 [(.t 84), (.t 85)])⟩, ⟨.none, .none, (.plain (.store 6 (.t 2) (.t 86)))⟩]
def C44_47 : ACode := .ops O44_47
def C44_48 : ACode := .ret
def C44_46 : ACode := .seq C44_47 C44_48
def C44_11 : ACode := .seq C44_12 C44_46
def C44_49 : ACode := .skip
def C44_10 : ACode := .cond (.t 21) C44_11 C44_49
def C44_8 : ACode := .seq C44_9 C44_10
def O44_52_3 : List AOp := ⟨(.some 111), (.some (106, false)), (.plain (.mv (.t 3)))⟩ :: ⟨(.some 112), (.some (106, false)), (.plain (.binI .add (.t 111) (.c (.int .i64 4))))⟩ :: ⟨(.some 113), (.some (106, false)), (.plain (.ixS (.t 110) (.t 112)))⟩ :: ⟨(.some 114), (.some (106, false)), (.plain (.binI .neq (.t 113) (.c (.int .u8 93))))⟩ :: ⟨(.some 115), .none, (.plain (.pick (.t 106) (.c (.bool true)) (.t 114)))⟩ :: []
def O44_52_2 : List AOp := ⟨(.some 103), (.some (95, false)), (.plain (.mv (.t 4)))⟩ :: ⟨(.some 104), (.some (95, false)), (.plain (.binI .neq (.t 102) (.t 103)))⟩ :: ⟨(.some 105), .none, (.plain (.pick (.t 95) (.c (.bool true)) (.t 104)))⟩ :: ⟨(.some 106), .none, (.plain (.mv (.t 105)))⟩ :: ⟨(.some 107), (.some (106, false)), (.plain (.mv (.t 0)))⟩ :: ⟨(.some 108), (.some (106, false)), (.plain (.nilck (.t 107)))⟩ :: ⟨(.some 109), (.some (106, false)), (.plain (.faddr 0 (.t 108)))⟩ :: ⟨(.some 110), (.some (106, false)), (.plain (.load1 (.t 109)))⟩ :: O44_52_3
def O44_52_1 : List AOp := ⟨(.some 95), .none, (.plain (.mv (.t 94)))⟩ :: ⟨(.some 96), (.some (95, false)), (.plain (.mv (.t 0)))⟩ :: ⟨(.some 97), (.some (95, false)), (.plain (.nilck (.t 96)))⟩ :: ⟨(.some 98), (.some (95, false)), (.plain (.faddr 0 (.t 97)))⟩ :: ⟨(.some 99), (.some (95, false)), (.plain (.load1 (.t 98)))⟩ :: ⟨(.some 100), (.some (95, false)), (.plain (.mv (.t 3)))⟩ :: ⟨(.some 101), (.some (95, false)), (.plain (.binI .add (.t 100) (.c (.int .i64 3))))⟩ :: ⟨(.some 102), (.some (95, false)), (.plain (.ixS (.t 99) (.t 101)))⟩ :: O44_52_2
def O44_52 : List AOp := ⟨(.some 87), .none, (.plain (.mv (.t 3)))⟩ :: ⟨(.some 88), .none, (.plain (.binI .add (.t 87) (.c (.int .i64 4))))⟩ :: ⟨(.some 89), .none, (.plain (.mv (.t 0)))⟩ :: ⟨(.some 90), .none, (.plain (.nilck (.t 89)))⟩ :: ⟨(.some 91), .none, (.plain (.faddr 0 (.t 90)))⟩ :: ⟨(.some 92), .none, (.plain (.load1 (.t 91)))⟩ :: ⟨(.some 93), .none, (.plain (.lenS (.t 92)))⟩ :: ⟨(.some 94), .none, (.plain (.binI .geq (.t 88) (.t 93)))⟩ :: O44_52_1
def C44_52 : ACode := .ops O44_52
def O44_55 : List AOp := [⟨(.some 116), .none, (.plain (.mv (.t 0)))⟩, ⟨(.some 117), .none, (.plain (.mv (.t 3)))⟩, ⟨(.some 118), .none, (.call 39 [(.t 116), (.t 117)])⟩, ⟨.none, .none, (.plain (.store 6 (.t 2) (.t 118)))⟩]
def C44_55 : ACode := .ops O44_55
def C44_56 : ACode := .ret
def C44_54 : ACode := .seq C44_55 C44_56
def C44_57 : ACode := .skip
def C44_53 : ACode := .cond (.t 115) C44_54 C44_57
def C44_51 : ACode := .seq C44_52 C44_53
def O44_59 : List AOp := [⟨(.some 119), .none, (.plain (.mv (.t 0)))⟩, ⟨(.some 120), .none, (.plain (.nilck (.t 119)))⟩, ⟨(.some 121), .none, (.plain (.faddr 0 (.t 120)))⟩, ⟨(.some 122), .none, (.plain (.load1 (.t 121)))⟩, ⟨(.some 123), .none, (.plain (.mv (.t 3)))⟩, ⟨(.some 124), .none, (.plain (.binI .add (.t 123) (.c (.int .i64 2))))⟩, ⟨(.some 125), .none, (.plain (.ixS (.t 122) (.t 124)))⟩, ⟨(.some 8), .none, (.plain (.mv (.t 125)))⟩]
def C44_59 : ACode := .ops O44_59
def O44_61 : List AOp := [⟨(.some 126), .none, (.plain (.mv (.t 0)))⟩, ⟨(.some 127), .none, (.plain (.mv (.t 3)))⟩, ⟨(.some 128), .none, (.plain (.binI .add (.t 127) (.c (.int .i64 5))))⟩, ⟨(.some 129), .none, (.plain (.nilck (.t 126)))⟩, ⟨(.some 130), .none, (.plain (.faddr 1 (.t 129)))⟩, ⟨.none, .none, (.plain (.store 1 (.t 130) (.t 128)))⟩]
def C44_61 : ACode := .ops O44_61
def O44_63 : List AOp := [⟨(.some 131), .none, (.plain (.mv (.t 8)))⟩, ⟨(.some 132), .none, (.plain (.bslice 1 1 false [(.int .u8 0)] [(0, (1, (.t 131)))] false))⟩, ⟨(.some 133), .none, (.call 12 [(.t 132)])⟩, ⟨(.some 134), .none, (.plain (.mv (.t 8)))⟩, ⟨(.some 135), .none, (.plain (.mv (.t 4)))⟩, ⟨(.some 136), .none, (.plain (.binI .eql (.t 135) (.c (.int .u8 46))))⟩, ⟨(.some 137), .none, (.plain (.build [(.int .u64 0), (.int .u64 0), (.int .u64 0), (.int .u64 0), (.int .u8 0), (.bool false)] [(0, (4, (.t 133))), (4, (1, (.t 134))), (5, (1, (.t 136)))]))⟩, ⟨.none, .none, (.plain (.store 6 (.t 2) (.t 137)))⟩]
def C44_63 : ACode := .ops O44_63
def C44_64 : ACode := .ret
def C44_62 : ACode := .seq C44_63 C44_64
def C44_60 : ACode := .seq C44_61 C44_62
def C44_58 : ACode := .seq C44_59 C44_60
def C44_50 : ACode := .seq C44_51 C44_58
def C44_7 : ACode := .seq C44_8 C44_50
def C44_5 : ACode := .seq C44_6 C44_7
def C44_3 : ACode := .seq C44_4 C44_5
def C44_1 : ACode := .seq C44_2 C44_3
def R44 : List RA := [(.cellN 2 6)]
theorem k44 : compF Try.prog (muL []) 44 = some ⟨138, C44_1, R44⟩ := by kernel_rfl
noncomputable def X44 (K : AV → Store → Prop) : Cx := ⟨Try.prog, noG, 138, muL [], R44, isK K⟩
inductive St44 where
  | p1 (at_ : Int) (k : Int) (r_ : T52) (t2 : T54)
  | p2 (at_ : Int) (r_ : T52) (t2 : T54)
  | p3 (at_ : Int) (r_ : T52) (t2 : T54)
noncomputable def G44 : St44 → Option (T54 × T52)
  | .p1 at_ k r_ t2 =>
    (if (decide (k < ((r_.s).length : Int))) = true then
      (ix r_.s k >>= fun b44 =>
        (if ((b44.toNat : Int) != 58) = true then
          (G44 (.p1 at_ (IntKind.wrap .i64 (k + 1)) r_ t2))
        else
          (strcut r_.s (IntKind.wrap .i64 (at_ + 2)) k >>= fun w47 =>
            (F9 w47 >>= fun r49 =>
              (if (!r49.2) = true then
                (G44 (.p3 at_ r_ t2))
              else
                (if (decide ((IntKind.wrap .i64 (k + 1)) ≥ ((r_.s).length : Int))) = true then
                  (G44 (.p3 at_ r_ t2))
                else
                  (ix r_.s (IntKind.wrap .i64 (k + 1)) >>= fun b71 =>
                    (if ((b71.toNat : Int) != 93) = true then
                      (G44 (.p3 at_ r_ t2))
                    else
                      (some (({ set := r49.1, c := 0, one := false } : T54), ({ r_ with i := IntKind.wrap .i64 (k + 2) } : T52)))))))))))
    else
      (F39 r_ at_ >>= fun r85 =>
        (some (r85.1, r85.2))))
  | .p2 at_ r_ t2 =>
    (F39 r_ at_ >>= fun r97 =>
      (some (r97.1, r97.2)))
  | .p3 at_ r_ t2 =>
    (F39 r_ at_ >>= fun r109 =>
      (some (r109.1, r109.2)))
  partial_fixpoint
def M44 (x : St44) (r : T54 × T52) : Prop := match x with
  | .p1 at_ k r_ t2 => ∀ (K : AV → Store → Prop) (st0 : Store) (ia : Nat), (∀ st', Keep (fun j => j = ia) st0 st' → st'[ia]? = some (.cells (c52 r.2)) → K (AV.agg (c54 r.1)) st') → ∀ (tm : Fr) (st : Store) (i1 : Nat), tm 0 = .ptr ia 0 → tm 2 = .ptr i1 0 → tm 3 = AV.int .i64 at_ → tm 5 = AV.int .i64 k → st[ia]? = some (.cells (c52 r_)) → st[i1]? = some (.cells (c54 t2)) → ia ≠ i1 → Keep (fun j => j = ia) st0 st → (∀ j ob, st0[j]? = some ob → j ≠ i1) → AtL (X44 K) C44_16 [.blk 0, .seq C44_46, .seq C44_50] tm st
  | .p2 at_ r_ t2 => ∀ (K : AV → Store → Prop) (st0 : Store) (ia : Nat), (∀ st', Keep (fun j => j = ia) st0 st' → st'[ia]? = some (.cells (c52 r.2)) → K (AV.agg (c54 r.1)) st') → ∀ (tm : Fr) (st : Store) (i1 : Nat), tm 0 = .ptr ia 0 → tm 2 = .ptr i1 0 → tm 3 = AV.int .i64 at_ → st[ia]? = some (.cells (c52 r_)) → st[i1]? = some (.cells (c54 t2)) → ia ≠ i1 → Keep (fun j => j = ia) st0 st → (∀ j ob, st0[j]? = some ob → j ≠ i1) → At (X44 K) C44_54 [.seq C44_58] tm st
  | .p3 at_ r_ t2 => ∀ (K : AV → Store → Prop) (st0 : Store) (ia : Nat), (∀ st', Keep (fun j => j = ia) st0 st' → st'[ia]? = some (.cells (c52 r.2)) → K (AV.agg (c54 r.1)) st') → ∀ (tm : Fr) (st : Store) (i1 : Nat), tm 0 = .ptr ia 0 → tm 2 = .ptr i1 0 → tm 3 = AV.int .i64 at_ → st[ia]? = some (.cells (c52 r_)) → st[i1]? = some (.cells (c54 t2)) → ia ≠ i1 → Keep (fun j => j = ia) st0 st → (∀ j ob, st0[j]? = some ob → j ≠ i1) → At (X44 K) C44_36 [.seq C44_40, .blk 1, .seq C44_45, .lp C44_16, .blk 0, .seq C44_46, .seq C44_50] tm st
theorem w44 : ∀ (x : St44) (r : T54 × T52), G44 x = some r → M44 x r := by
  refine G44.partial_correctness M44 ?_
  intro g ih x r hF
  cases x with
  | p1 at_ k r_ t2 =>
    dsimp only at hF
    intro K st0 ia hK tm st i1 h0 h2 h3 h5 o0 o1 n0_1 kp0 fr1
    refine atl_once ?_
    refine at_seq (a := C44_17) (b := C44_22) ?_
    refine at_seq (a := C44_18) (b := C44_19) ?_
    refine at_ops (l := O44_18) ?_
    refine xo (e_mv' (v := AV.int .i64 k) h5) ?_
    refine xo (e_mv' (v := AV.ptr ia 0) h0) ?_
    refine xo (e_nilck rfl o0) ?_
    refine xo (e_faddr rfl o0) ?_
    refine xo (e_load1 rfl o0 (LR.comp (LR.whole _ _) (lr52_s r_ r_.s))) ?_
    refine xo (e_lenS rfl) ?_
    refine xo (e_bin (v := .bool (decide (k < ((r_.s).length : Int)))) rfl rfl rfl) ?_
    refine ato_nil ?_
    refine atn_seq ?_
    refine at_cond (x := C44_20) (y := C44_21) rfl (fun c43 => ?_) (fun c43 => ?_)
    · have hF := ite_t c43 hF
      refine at_skip ?_
      refine atn_seq ?_
      refine at_seq (a := C44_23) (b := C44_45) ?_
      refine at_block (x := C44_24) ?_
      refine at_seq (a := C44_25) (b := C44_30) ?_
      refine at_seq (a := C44_26) (b := C44_27) ?_
      refine at_ops (l := O44_26) ?_
      refine xo (e_mv' (v := AV.ptr ia 0) h0) ?_
      refine xo (e_nilck rfl o0) ?_
      refine xo (e_faddr rfl o0) ?_
      refine xo (e_load1 rfl o0 (LR.comp (LR.whole _ _) (lr52_s r_ r_.s))) ?_
      refine xo (e_mv' (v := AV.int .i64 k) h5) ?_
      obtain ⟨b44, g45, hF⟩ := bind_some hF
      refine xo (e_ixS rfl rfl g45) ?_
      refine xo (e_bin (v := .bool (((b44.toNat : Int) != 58))) rfl rfl rfl) ?_
      refine ato_nil ?_
      refine atn_seq ?_
      refine at_cond (x := C44_28) (y := C44_29) rfl (fun c46 => ?_) (fun c46 => ?_)
      · have hF := ite_t c46 hF
        refine at_exit ?_
        refine atx (k' := [.seq C44_45, .lp C44_16, .blk 0, .seq C44_46, .seq C44_50]) rfl ?_
        refine atn_seq ?_
        refine at_ops (l := O44_45) ?_
        refine xo (e_mv' (v := AV.int .i64 k) h5) ?_
        refine xo (e_bin (v := .int .i64 (IntKind.wrap .i64 (k + 1))) rfl rfl rfl) ?_
        refine xo (e_mv' (v := AV.int .i64 (IntKind.wrap .i64 (k + 1))) rfl) ?_
        refine ato_nil ?_
        refine atn_lp ?_
        exact ih (.p1 at_ (IntKind.wrap .i64 (k + 1)) r_ t2) _ hF K st0 ia hK _ _ _ h0 h2 h3 rfl o0 o1 n0_1 kp0 fr1
      · have hF := ite_f c46 hF
        refine at_skip ?_
        refine atn_seq ?_
        refine at_seq (a := C44_31) (b := C44_32) ?_
        refine at_ops (l := O44_31) ?_
        refine xo (e_mv' (v := AV.ptr ia 0) h0) ?_
        refine xo (e_nilck rfl o0) ?_
        refine xo (e_faddr rfl o0) ?_
        refine xo (e_load1 rfl o0 (LR.comp (LR.whole _ _) (lr52_s r_ r_.s))) ?_
        refine xo (e_mv' (v := AV.int .i64 at_) h3) ?_
        refine xo (e_bin (v := .int .i64 (IntKind.wrap .i64 (at_ + 2))) rfl rfl rfl) ?_
        refine xo (e_mv' (v := AV.int .i64 k) h5) ?_
        obtain ⟨w47, g48, hF⟩ := bind_some hF
        refine xo (e_slS2 rfl rfl rfl g48) ?_
        obtain ⟨r49, g50, hF⟩ := bind_some hF
        refine xo_dfun' (d9 w47 _ g50) (dsl_cons (ds_eq rfl ds_s) dsl_nil) ?_
        refine xo (e_mv' (v := AV.tup [AV.agg (c24 r49.1), AV.bool r49.2]) rfl) ?_
        refine xo (e_extract (v := AV.agg (c24 r49.1)) rfl rfl) ?_
        refine xo (e_extract (v := AV.bool r49.2) rfl rfl) ?_
        refine xo_alloc (cs := c24 (Arr.rep 4 0)) rfl fun s52 i53 o54 k55 q56 => ?_
        have n57 : ia ≠ i53 := fun e => ne_new o0 (e.trans q56)
        have n58 : i1 ≠ i53 := fun e => ne_new o1 (e.trans q56)
        have fr59 := kp_fresh kp0 o0 q56
        have o60 := keep0 k55 o0
        have o61 := keep0 k55 o1
        have kp62 := kp_t0 kp0 k55
        refine xo_store rfl o54 (LR.whole _ _) (c24_len _) rfl rfl (c24_len _) (c24_one _) fun s63 o64 k65 => ?_
        have o66 := k65 _ _ o60 n57
        have o67 := k65 _ _ o61 n58
        have kp68 := kp_tl kp62 k65 fr59
        refine xo (e_mv' (v := AV.bool r49.2) rfl) ?_
        refine ato_nil ?_
        refine atn_seq ?_
        refine at_seq (a := C44_33) (b := C44_40) ?_
        refine at_seq (a := C44_34) (b := C44_35) ?_
        refine at_ops (l := O44_34) ?_
        refine xo (e_mv' (v := AV.bool r49.2) rfl) ?_
        refine xo (e_not rfl) ?_
        refine xo (e_mv' (v := AV.bool (!r49.2)) rfl) ?_
        refine bsplit (b := (!r49.2)) (fun c69 => ?_) (fun c69 => ?_)
        · have hF := ite_t c69 hF
          refine xo_off rfl c69 ?_
          refine xo_off rfl c69 ?_
          refine xo_off rfl c69 ?_
          refine xo_off rfl c69 ?_
          refine xo_off rfl c69 ?_
          refine xo_off rfl c69 ?_
          refine xo_off rfl c69 ?_
          refine xo_off rfl c69 ?_
          refine xo (e_pick_t (v := AV.bool true) rfl c69 rfl) ?_
          refine xo (e_mv' (v := AV.bool true) rfl) ?_
          refine xo_off rfl rfl ?_
          refine xo_off rfl rfl ?_
          refine xo_off rfl rfl ?_
          refine xo_off rfl rfl ?_
          refine xo_off rfl rfl ?_
          refine xo_off rfl rfl ?_
          refine xo_off rfl rfl ?_
          refine xo_off rfl rfl ?_
          refine xo (e_pick_t (v := AV.bool true) rfl rfl rfl) ?_
          refine ato_nil ?_
          refine atn_seq ?_
          refine at_cond_t (x := C44_36) (y := C44_39) rfl rfl ?_
          exact ih (.p3 at_ r_ t2) _ hF K st0 ia hK _ _ _ h0 h2 h3 o66 o67 n0_1 kp68 fr1
        · have hF := ite_f c69 hF
          refine xo_on rfl c69 ?_
          refine xo (e_mv' (v := AV.int .i64 k) h5) ?_
          refine xo_on rfl c69 ?_
          refine xo (e_bin (v := .int .i64 (IntKind.wrap .i64 (k + 1))) rfl rfl rfl) ?_
          refine xo_on rfl c69 ?_
          refine xo (e_mv' (v := AV.ptr ia 0) h0) ?_
          refine xo_on rfl c69 ?_
          refine xo (e_nilck rfl o66) ?_
          refine xo_on rfl c69 ?_
          refine xo (e_faddr rfl o66) ?_
          refine xo_on rfl c69 ?_
          refine xo (e_load1 rfl o66 (LR.comp (LR.whole _ _) (lr52_s r_ r_.s))) ?_
          refine xo_on rfl c69 ?_
          refine xo (e_lenS rfl) ?_
          refine xo_on rfl c69 ?_
          refine xo (e_bin (v := .bool (decide ((IntKind.wrap .i64 (k + 1)) ≥ ((r_.s).length : Int)))) rfl rfl rfl) ?_
          refine xo (e_pick_f (v := AV.bool (decide ((IntKind.wrap .i64 (k + 1)) ≥ ((r_.s).length : Int)))) rfl c69 rfl) ?_
          refine xo (e_mv' (v := AV.bool (decide ((IntKind.wrap .i64 (k + 1)) ≥ ((r_.s).length : Int)))) rfl) ?_
          refine bsplit (b := decide ((IntKind.wrap .i64 (k + 1)) ≥ ((r_.s).length : Int))) (fun c70 => ?_) (fun c70 => ?_)
          · have hF := ite_t c70 hF
            refine xo_off rfl c70 ?_
            refine xo_off rfl c70 ?_
            refine xo_off rfl c70 ?_
            refine xo_off rfl c70 ?_
            refine xo_off rfl c70 ?_
            refine xo_off rfl c70 ?_
            refine xo_off rfl c70 ?_
            refine xo_off rfl c70 ?_
            refine xo (e_pick_t (v := AV.bool true) rfl c70 rfl) ?_
            refine ato_nil ?_
            refine atn_seq ?_
            refine at_cond_t (x := C44_36) (y := C44_39) rfl rfl ?_
            exact ih (.p3 at_ r_ t2) _ hF K st0 ia hK _ _ _ h0 h2 h3 o66 o67 n0_1 kp68 fr1
          · have hF := ite_f c70 hF
            refine xo_on rfl c70 ?_
            refine xo (e_mv' (v := AV.ptr ia 0) h0) ?_
            refine xo_on rfl c70 ?_
            refine xo (e_nilck rfl o66) ?_
            refine xo_on rfl c70 ?_
            refine xo (e_faddr rfl o66) ?_
            refine xo_on rfl c70 ?_
            refine xo (e_load1 rfl o66 (LR.comp (LR.whole _ _) (lr52_s r_ r_.s))) ?_
            refine xo_on rfl c70 ?_
            refine xo (e_mv' (v := AV.int .i64 k) h5) ?_
            refine xo_on rfl c70 ?_
            refine xo (e_bin (v := .int .i64 (IntKind.wrap .i64 (k + 1))) rfl rfl rfl) ?_
            obtain ⟨b71, g72, hF⟩ := bind_some hF
            refine xo_on rfl c70 ?_
            refine xo (e_ixS rfl rfl g72) ?_
            refine xo_on rfl c70 ?_
            refine xo (e_bin (v := .bool (((b71.toNat : Int) != 93))) rfl rfl rfl) ?_
            refine xo (e_pick_f (v := AV.bool ((b71.toNat : Int) != 93)) rfl c70 rfl) ?_
            refine ato_nil ?_
            refine atn_seq ?_
            refine at_cond (x := C44_36) (y := C44_39) rfl (fun c73 => ?_) (fun c73 => ?_)
            · have hF := ite_t c73 hF
              exact ih (.p3 at_ r_ t2) _ hF K st0 ia hK _ _ _ h0 h2 h3 o66 o67 n0_1 kp68 fr1
            · have hF := ite_f c73 hF
              refine at_skip ?_
              refine atn_seq ?_
              refine at_seq (a := C44_41) (b := C44_42) ?_
              refine at_ops (l := O44_41) ?_
              refine xo (e_mv' (v := AV.ptr ia 0) h0) ?_
              refine xo (e_mv' (v := AV.int .i64 k) h5) ?_
              refine xo (e_bin (v := .int .i64 (IntKind.wrap .i64 (k + 2))) rfl rfl rfl) ?_
              refine xo (e_nilck rfl o66) ?_
              refine xo (e_faddr rfl o66) ?_
              refine xo_store rfl o66 (LR.comp (LR.whole _ _) (lr52_i r_ (IntKind.wrap .i64 (k + 2)))) ((cI_len .i64) _) rfl rfl ((cI_len .i64) _) ((cI_one .i64) _) fun s74 o75 k76 => ?_
              have o77 := k76 _ _ o67 (Ne.symm n0_1)
              have o78 := k76 _ _ o64 (Ne.symm n57)
              have kp79 := kp_tb kp68 k76 rfl
              refine ato_nil ?_
              refine atn_seq ?_
              refine at_seq (a := C44_43) (b := C44_44) ?_
              refine at_ops (l := O44_43) ?_
              refine xo (e_loadN rfl o78 (LR.whole _ _) (c24_len _)) ?_
              refine xo (e_build (z := [(.int .u64 0), (.int .u64 0), (.int .u64 0), (.int .u64 0), (.int .u8 0), (.bool false)]) (cs := c54 ({ set := r49.1, c := 0, one := false } : T54)) (pk_cons (cs := c24 r49.1) rfl rfl (c24_len _) (by decide) pk_nil) (show fillA (c54 ({ set := (Arr.rep 4 0), c := 0, one := false } : T54)) _ = _ from (fl_cons (lr54_set ({ set := (Arr.rep 4 0), c := 0, one := false } : T54) r49.1) ((c24_len _).trans (c24_len _).symm) (fl_nil _)))) ?_
              refine xo_store h2 o77 (LR.whole _ _) (c54_len _) rfl rfl (c54_len _) (c54_one _) fun s80 o81 k82 => ?_
              have o83 := k82 _ _ o75 n0_1
              have kp84 := kp_tl kp79 k82 fr1
              refine ato_nil ?_
              refine atn_seq ?_
              refine at_ret ?_
              cases hF
              exact atr (rl_cellN h2 o81 (LR.whole _ _) (c54_len _) rl_nil) (isk (ds_eq rfl (ds_agg (c54_ds _))) (hK _ kp84 o83))
    · have hF := ite_f c43 hF
      refine at_exit ?_
      refine atx (k' := [.seq C44_46, .seq C44_50]) rfl ?_
      refine atn_seq ?_
      refine at_seq (a := C44_47) (b := C44_48) ?_
      refine at_ops (l := O44_47) ?_
      refine xo (e_mv' (v := AV.ptr ia 0) h0) ?_
      refine xo (e_mv' (v := AV.int .i64 at_) h3) ?_
      obtain ⟨r85, g86, hF⟩ := bind_some hF
      refine xo_callO (al_cons (ar_eq rfl) (al_cons (ar_eq rfl) al_nil)) (d39 r_ at_ _ g86 _ _ _ o0 fun s87 k88 o89 => ?_)
      have o90 := k88 _ _ o1 (Ne.symm n0_1)
      have kp91 := kp_tb kp0 k88 rfl
      refine xo_store h2 o90 (LR.whole _ _) (c54_len _) rfl rfl (c54_len _) (c54_one _) fun s92 o93 k94 => ?_
      have o95 := k94 _ _ o89 n0_1
      have kp96 := kp_tl kp91 k94 fr1
      refine ato_nil ?_
      refine atn_seq ?_
      refine at_ret ?_
      cases hF
      exact atr (rl_cellN h2 o93 (LR.whole _ _) (c54_len _) rl_nil) (isk (ds_eq rfl (ds_agg (c54_ds _))) (hK _ kp96 o95))
  | p2 at_ r_ t2 =>
    dsimp only at hF
    intro K st0 ia hK tm st i1 h0 h2 h3 o0 o1 n0_1 kp0 fr1
    refine at_seq (a := C44_55) (b := C44_56) ?_
    refine at_ops (l := O44_55) ?_
    refine xo (e_mv' (v := AV.ptr ia 0) h0) ?_
    refine xo (e_mv' (v := AV.int .i64 at_) h3) ?_
    obtain ⟨r97, g98, hF⟩ := bind_some hF
    refine xo_callO (al_cons (ar_eq rfl) (al_cons (ar_eq rfl) al_nil)) (d39 r_ at_ _ g98 _ _ _ o0 fun s99 k100 o101 => ?_)
    have o102 := k100 _ _ o1 (Ne.symm n0_1)
    have kp103 := kp_tb kp0 k100 rfl
    refine xo_store h2 o102 (LR.whole _ _) (c54_len _) rfl rfl (c54_len _) (c54_one _) fun s104 o105 k106 => ?_
    have o107 := k106 _ _ o101 n0_1
    have kp108 := kp_tl kp103 k106 fr1
    refine ato_nil ?_
    refine atn_seq ?_
    refine at_ret ?_
    cases hF
    exact atr (rl_cellN h2 o105 (LR.whole _ _) (c54_len _) rl_nil) (isk (ds_eq rfl (ds_agg (c54_ds _))) (hK _ kp108 o107))
  | p3 at_ r_ t2 =>
    dsimp only at hF
    intro K st0 ia hK tm st i1 h0 h2 h3 o0 o1 n0_1 kp0 fr1
    refine at_seq (a := C44_37) (b := C44_38) ?_
    refine at_ops (l := O44_37) ?_
    refine xo (e_mv' (v := AV.ptr ia 0) h0) ?_
    refine xo (e_mv' (v := AV.int .i64 at_) h3) ?_
    obtain ⟨r109, g110, hF⟩ := bind_some hF
    refine xo_callO (al_cons (ar_eq rfl) (al_cons (ar_eq rfl) al_nil)) (d39 r_ at_ _ g110 _ _ _ o0 fun s111 k112 o113 => ?_)
    have o114 := k112 _ _ o1 (Ne.symm n0_1)
    have kp115 := kp_tb kp0 k112 rfl
    refine xo_store h2 o114 (LR.whole _ _) (c54_len _) rfl rfl (c54_len _) (c54_one _) fun s116 o117 k118 => ?_
    have o119 := k118 _ _ o113 n0_1
    have kp120 := kp_tl kp115 k118 fr1
    refine ato_nil ?_
    refine atn_seq ?_
    refine at_ret ?_
    cases hF
    exact atr (rl_cellN h2 o117 (LR.whole _ _) (c54_len _) rl_nil) (isk (ds_eq rfl (ds_agg (c54_ds _))) (hK _ kp120 o119))
noncomputable def F44 (r_ : T52) : Option (T54 × T52) :=
  (ix r_.s (IntKind.wrap .i64 (r_.i + 1)) >>= fun b11 =>
    (if ((b11.toNat : Int) == 58) = true then
      (G44 (.p1 r_.i (IntKind.wrap .i64 (r_.i + 2)) r_ ({ set := (Arr.rep 4 0), c := 0, one := false } : T54)))
    else
      (if (decide ((IntKind.wrap .i64 (r_.i + 4)) ≥ ((r_.s).length : Int))) = true then
        (G44 (.p2 r_.i r_ ({ set := (Arr.rep 4 0), c := 0, one := false } : T54)))
      else
        (ix r_.s (IntKind.wrap .i64 (r_.i + 3)) >>= fun b15 =>
          (if ((b15.toNat : Int) != (b11.toNat : Int)) = true then
            (G44 (.p2 r_.i r_ ({ set := (Arr.rep 4 0), c := 0, one := false } : T54)))
          else
            (ix r_.s (IntKind.wrap .i64 (r_.i + 4)) >>= fun b18 =>
              (if ((b18.toNat : Int) != 93) = true then
                (G44 (.p2 r_.i r_ ({ set := (Arr.rep 4 0), c := 0, one := false } : T54)))
              else
                (ix r_.s (IntKind.wrap .i64 (r_.i + 2)) >>= fun b21 =>
                  (F12 (some ([(b21.toNat : Int)] : List Int)) >>= fun r36 =>
                    (some (({ set := r36, c := (b21.toNat : Int), one := ((b11.toNat : Int) == 46) } : T54), ({ r_ with i := IntKind.wrap .i64 (r_.i + 5) } : T52))))))))))))
theorem d44 (r_ : T52) (r : T54 × T52) (hF : F44 r_ = some r) : ∀ (K : AV → Store → Prop) (st0 : Store) (ia : Nat), st0[ia]? = some (.cells (c52 r_)) → (∀ st', Keep (fun j => j = ia) st0 st' → st'[ia]? = some (.cells (c52 r.2)) → K (AV.agg (c54 r.1)) st') → XCall Try.prog noG 44 [.ptr ia 0] st0 K := by
  unfold F44 at hF
  intro K st0 ia ho hK
  refine xcallO_at k44 (Nat.le_of_ble_eq_true rfl) ?_
  have kp0 := keep_refl (fun j => j = ia) st0
  show At (X44 K) _ _ _ _
  refine at_seq (a := C44_2) (b := C44_3) ?_
  refine at_ops (l := O44_2) ?_
  refine xo_alloc (cs := c54 ({ set := (Arr.rep 4 0), c := 0, one := false } : T54)) rfl fun s2 i3 o4 k5 q6 => ?_
  have n7 : ia ≠ i3 := fun e => ne_new ho (e.trans q6)
  have fr8 := kp_fresh kp0 ho q6
  have o9 := keep0 k5 ho
  have kp10 := kp_t0 kp0 k5
  refine ato_nil ?_
  refine atn_seq ?_
  refine at_seq (a := C44_4) (b := C44_5) ?_
  refine at_ops (l := O44_4) ?_
  refine xo (e_mv' (v := AV.ptr ia 0) rfl) ?_
  refine xo (e_nilck rfl o9) ?_
  refine xo (e_faddr rfl o9) ?_
  refine xo (e_load1 rfl o9 (LR.comp (LR.whole _ _) (lr52_i r_ r_.i))) ?_
  refine xo (e_mv' (v := AV.int .i64 r_.i) rfl) ?_
  refine ato_nil ?_
  refine atn_seq ?_
  refine at_seq (a := C44_6) (b := C44_7) ?_
  refine at_ops (l := O44_6) ?_
  refine xo (e_mv' (v := AV.ptr ia 0) rfl) ?_
  refine xo (e_nilck rfl o9) ?_
  refine xo (e_faddr rfl o9) ?_
  refine xo (e_load1 rfl o9 (LR.comp (LR.whole _ _) (lr52_s r_ r_.s))) ?_
  refine xo (e_mv' (v := AV.int .i64 r_.i) rfl) ?_
  refine xo (e_bin (v := .int .i64 (IntKind.wrap .i64 (r_.i + 1))) rfl rfl rfl) ?_
  obtain ⟨b11, g12, hF⟩ := bind_some hF
  refine xo (e_ixS rfl rfl g12) ?_
  refine xo (e_mv' (v := AV.int .u8 (b11.toNat : Int)) rfl) ?_
  refine ato_nil ?_
  refine atn_seq ?_
  refine at_seq (a := C44_8) (b := C44_50) ?_
  refine at_seq (a := C44_9) (b := C44_10) ?_
  refine at_ops (l := O44_9) ?_
  refine xo (e_mv' (v := AV.int .u8 (b11.toNat : Int)) rfl) ?_
  refine xo (e_bin (v := .bool (((b11.toNat : Int) == 58))) rfl rfl rfl) ?_
  refine ato_nil ?_
  refine atn_seq ?_
  refine at_cond (x := C44_11) (y := C44_49) rfl (fun c13 => ?_) (fun c13 => ?_)
  · have hF := ite_t c13 hF
    refine at_seq (a := C44_12) (b := C44_46) ?_
    refine at_seq (a := C44_13) (b := C44_14) ?_
    refine at_ops (l := O44_13) ?_
    refine xo (e_mv' (v := AV.int .i64 r_.i) rfl) ?_
    refine xo (e_bin (v := .int .i64 (IntKind.wrap .i64 (r_.i + 2))) rfl rfl rfl) ?_
    refine xo (e_mv' (v := AV.int .i64 (IntKind.wrap .i64 (r_.i + 2))) rfl) ?_
    refine ato_nil ?_
    refine atn_seq ?_
    refine at_block (x := C44_15) ?_
    refine at_loop (b := C44_16) ?_
    exact w44 (.p1 r_.i (IntKind.wrap .i64 (r_.i + 2)) r_ ({ set := (Arr.rep 4 0), c := 0, one := false } : T54)) _ hF K st0 ia hK _ _ _ rfl rfl rfl rfl o9 o4 n7 kp10 fr8
  · have hF := ite_f c13 hF
    refine at_skip ?_
    refine atn_seq ?_
    refine at_seq (a := C44_51) (b := C44_58) ?_
    refine at_seq (a := C44_52) (b := C44_53) ?_
    refine at_ops (l := O44_52) ?_
    refine xo (e_mv' (v := AV.int .i64 r_.i) rfl) ?_
    refine xo (e_bin (v := .int .i64 (IntKind.wrap .i64 (r_.i + 4))) rfl rfl rfl) ?_
    refine xo (e_mv' (v := AV.ptr ia 0) rfl) ?_
    refine xo (e_nilck rfl o9) ?_
    refine xo (e_faddr rfl o9) ?_
    refine xo (e_load1 rfl o9 (LR.comp (LR.whole _ _) (lr52_s r_ r_.s))) ?_
    refine xo (e_lenS rfl) ?_
    refine xo (e_bin (v := .bool (decide ((IntKind.wrap .i64 (r_.i + 4)) ≥ ((r_.s).length : Int)))) rfl rfl rfl) ?_
    refine xo (e_mv' (v := AV.bool (decide ((IntKind.wrap .i64 (r_.i + 4)) ≥ ((r_.s).length : Int)))) rfl) ?_
    refine bsplit (b := decide ((IntKind.wrap .i64 (r_.i + 4)) ≥ ((r_.s).length : Int))) (fun c14 => ?_) (fun c14 => ?_)
    · have hF := ite_t c14 hF
      refine xo_off rfl c14 ?_
      refine xo_off rfl c14 ?_
      refine xo_off rfl c14 ?_
      refine xo_off rfl c14 ?_
      refine xo_off rfl c14 ?_
      refine xo_off rfl c14 ?_
      refine xo_off rfl c14 ?_
      refine xo_off rfl c14 ?_
      refine xo_off rfl c14 ?_
      refine xo (e_pick_t (v := AV.bool true) rfl c14 rfl) ?_
      refine xo (e_mv' (v := AV.bool true) rfl) ?_
      refine xo_off rfl rfl ?_
      refine xo_off rfl rfl ?_
      refine xo_off rfl rfl ?_
      refine xo_off rfl rfl ?_
      refine xo_off rfl rfl ?_
      refine xo_off rfl rfl ?_
      refine xo_off rfl rfl ?_
      refine xo_off rfl rfl ?_
      refine xo (e_pick_t (v := AV.bool true) rfl rfl rfl) ?_
      refine ato_nil ?_
      refine atn_seq ?_
      refine at_cond_t (x := C44_54) (y := C44_57) rfl rfl ?_
      exact w44 (.p2 r_.i r_ ({ set := (Arr.rep 4 0), c := 0, one := false } : T54)) _ hF K st0 ia hK _ _ _ rfl rfl rfl o9 o4 n7 kp10 fr8
    · have hF := ite_f c14 hF
      refine xo_on rfl c14 ?_
      refine xo (e_mv' (v := AV.ptr ia 0) rfl) ?_
      refine xo_on rfl c14 ?_
      refine xo (e_nilck rfl o9) ?_
      refine xo_on rfl c14 ?_
      refine xo (e_faddr rfl o9) ?_
      refine xo_on rfl c14 ?_
      refine xo (e_load1 rfl o9 (LR.comp (LR.whole _ _) (lr52_s r_ r_.s))) ?_
      refine xo_on rfl c14 ?_
      refine xo (e_mv' (v := AV.int .i64 r_.i) rfl) ?_
      refine xo_on rfl c14 ?_
      refine xo (e_bin (v := .int .i64 (IntKind.wrap .i64 (r_.i + 3))) rfl rfl rfl) ?_
      obtain ⟨b15, g16, hF⟩ := bind_some hF
      refine xo_on rfl c14 ?_
      refine xo (e_ixS rfl rfl g16) ?_
      refine xo_on rfl c14 ?_
      refine xo (e_mv' (v := AV.int .u8 (b11.toNat : Int)) rfl) ?_
      refine xo_on rfl c14 ?_
      refine xo (e_bin (v := .bool (((b15.toNat : Int) != (b11.toNat : Int)))) rfl rfl rfl) ?_
      refine xo (e_pick_f (v := AV.bool ((b15.toNat : Int) != (b11.toNat : Int))) rfl c14 rfl) ?_
      refine xo (e_mv' (v := AV.bool ((b15.toNat : Int) != (b11.toNat : Int))) rfl) ?_
      refine bsplit (b := ((b15.toNat : Int) != (b11.toNat : Int))) (fun c17 => ?_) (fun c17 => ?_)
      · have hF := ite_t c17 hF
        refine xo_off rfl c17 ?_
        refine xo_off rfl c17 ?_
        refine xo_off rfl c17 ?_
        refine xo_off rfl c17 ?_
        refine xo_off rfl c17 ?_
        refine xo_off rfl c17 ?_
        refine xo_off rfl c17 ?_
        refine xo_off rfl c17 ?_
        refine xo (e_pick_t (v := AV.bool true) rfl c17 rfl) ?_
        refine ato_nil ?_
        refine atn_seq ?_
        refine at_cond_t (x := C44_54) (y := C44_57) rfl rfl ?_
        exact w44 (.p2 r_.i r_ ({ set := (Arr.rep 4 0), c := 0, one := false } : T54)) _ hF K st0 ia hK _ _ _ rfl rfl rfl o9 o4 n7 kp10 fr8
      · have hF := ite_f c17 hF
        refine xo_on rfl c17 ?_
        refine xo (e_mv' (v := AV.ptr ia 0) rfl) ?_
        refine xo_on rfl c17 ?_
        refine xo (e_nilck rfl o9) ?_
        refine xo_on rfl c17 ?_
        refine xo (e_faddr rfl o9) ?_
        refine xo_on rfl c17 ?_
        refine xo (e_load1 rfl o9 (LR.comp (LR.whole _ _) (lr52_s r_ r_.s))) ?_
        refine xo_on rfl c17 ?_
        refine xo (e_mv' (v := AV.int .i64 r_.i) rfl) ?_
        refine xo_on rfl c17 ?_
        refine xo (e_bin (v := .int .i64 (IntKind.wrap .i64 (r_.i + 4))) rfl rfl rfl) ?_
        obtain ⟨b18, g19, hF⟩ := bind_some hF
        refine xo_on rfl c17 ?_
        refine xo (e_ixS rfl rfl g19) ?_
        refine xo_on rfl c17 ?_
        refine xo (e_bin (v := .bool (((b18.toNat : Int) != 93))) rfl rfl rfl) ?_
        refine xo (e_pick_f (v := AV.bool ((b18.toNat : Int) != 93)) rfl c17 rfl) ?_
        refine ato_nil ?_
        refine atn_seq ?_
        refine at_cond (x := C44_54) (y := C44_57) rfl (fun c20 => ?_) (fun c20 => ?_)
        · have hF := ite_t c20 hF
          exact w44 (.p2 r_.i r_ ({ set := (Arr.rep 4 0), c := 0, one := false } : T54)) _ hF K st0 ia hK _ _ _ rfl rfl rfl o9 o4 n7 kp10 fr8
        · have hF := ite_f c20 hF
          refine at_skip ?_
          refine atn_seq ?_
          refine at_seq (a := C44_59) (b := C44_60) ?_
          refine at_ops (l := O44_59) ?_
          refine xo (e_mv' (v := AV.ptr ia 0) rfl) ?_
          refine xo (e_nilck rfl o9) ?_
          refine xo (e_faddr rfl o9) ?_
          refine xo (e_load1 rfl o9 (LR.comp (LR.whole _ _) (lr52_s r_ r_.s))) ?_
          refine xo (e_mv' (v := AV.int .i64 r_.i) rfl) ?_
          refine xo (e_bin (v := .int .i64 (IntKind.wrap .i64 (r_.i + 2))) rfl rfl rfl) ?_
          obtain ⟨b21, g22, hF⟩ := bind_some hF
          refine xo (e_ixS rfl rfl g22) ?_
          refine xo (e_mv' (v := AV.int .u8 (b21.toNat : Int)) rfl) ?_
          refine ato_nil ?_
          refine atn_seq ?_
          refine at_seq (a := C44_61) (b := C44_62) ?_
          refine at_ops (l := O44_61) ?_
          refine xo (e_mv' (v := AV.ptr ia 0) rfl) ?_
          refine xo (e_mv' (v := AV.int .i64 r_.i) rfl) ?_
          refine xo (e_bin (v := .int .i64 (IntKind.wrap .i64 (r_.i + 5))) rfl rfl rfl) ?_
          refine xo (e_nilck rfl o9) ?_
          refine xo (e_faddr rfl o9) ?_
          refine xo_store rfl o9 (LR.comp (LR.whole _ _) (lr52_i r_ (IntKind.wrap .i64 (r_.i + 5)))) ((cI_len .i64) _) rfl rfl ((cI_len .i64) _) ((cI_one .i64) _) fun s23 o24 k25 => ?_
          have o26 := k25 _ _ o4 (Ne.symm n7)
          have kp27 := kp_tb kp10 k25 rfl
          refine ato_nil ?_
          refine atn_seq ?_
          refine at_seq (a := C44_63) (b := C44_64) ?_
          refine at_ops (l := O44_63) ?_
          refine xo (e_mv' (v := AV.int .u8 (b21.toNat : Int)) rfl) ?_
          refine xo_bslice (f := AV.int .u8) (m := ([(b21.toNat : Int)] : List Int)) (pk_cons (cs := (cI .u8) (b21.toNat : Int)) rfl rfl ((cI_len .u8) _) (by decide) pk_nil) rfl rfl rfl fun s28 i29 o30 k31 q32 => ?_
          have o33 := keep0 k31 o24
          have o34 := keep0 k31 o26
          have kp35 := kp_t0 kp27 k31
          obtain ⟨r36, g37, hF⟩ := bind_some hF
          refine xo_dfun' (d12 (some ([(b21.toNat : Int)] : List Int)) _ g37) (dsl_cons (ds_rd (fun _ => ds_i) (rd_T rfl)) dsl_nil) ?_
          refine xo (e_mv' (v := AV.int .u8 (b21.toNat : Int)) rfl) ?_
          refine xo (e_mv' (v := AV.int .u8 (b11.toNat : Int)) rfl) ?_
          refine xo (e_bin (v := .bool (((b11.toNat : Int) == 46))) rfl rfl rfl) ?_
          refine xo (e_build (z := [(.int .u64 0), (.int .u64 0), (.int .u64 0), (.int .u64 0), (.int .u8 0), (.bool false)]) (cs := c54 ({ set := r36, c := (b21.toNat : Int), one := ((b11.toNat : Int) == 46) } : T54)) (pk_cons (cs := c24 r36) rfl rfl (c24_len _) (by decide) (pk_cons (cs := (cI .u8) (b21.toNat : Int)) rfl rfl ((cI_len .u8) _) (by decide) (pk_cons (cs := cB ((b11.toNat : Int) == 46)) rfl rfl (cB_len _) (by decide) pk_nil))) (show fillA (c54 ({ set := (Arr.rep 4 0), c := 0, one := false } : T54)) _ = _ from (fl_cons (lr54_set ({ set := (Arr.rep 4 0), c := 0, one := false } : T54) r36) ((c24_len _).trans (c24_len _).symm) (fl_cons (lr54_c ({ ({ set := (Arr.rep 4 0), c := 0, one := false } : T54) with set := r36 } : T54) (b21.toNat : Int)) (((cI_len .u8) _).trans ((cI_len .u8) _).symm) (fl_cons (lr54_one ({ ({ ({ set := (Arr.rep 4 0), c := 0, one := false } : T54) with set := r36 } : T54) with c := (b21.toNat : Int) } : T54) ((b11.toNat : Int) == 46)) ((cB_len _).trans (cB_len _).symm) (fl_nil _)))))) ?_
          refine xo_store rfl o34 (LR.whole _ _) (c54_len _) rfl rfl (c54_len _) (c54_one _) fun s38 o39 k40 => ?_
          have o41 := k40 _ _ o33 n7
          have kp42 := kp_tl kp35 k40 fr8
          refine ato_nil ?_
          refine atn_seq ?_
          refine at_ret ?_
          cases hF
          exact atr (rl_cellN rfl o39 (LR.whole _ _) (c54_len _) rl_nil) (isk (ds_eq rfl (ds_agg (c54_ds _))) (hK _ kp42 o41))
/-! ### 38: (*paddock/sets.reader).item -/
def O38_2 : List AOp := [⟨(.some 2), .none, (.plain (.alloc [(.int .u64 0), (.int .u64 0), (.int .u64 0), (.int .u64 0), (.int .u8 0), (.bool false)]))⟩]
def C38_2 : ACode := .ops O38_2
def Q38_5_1 : List AOp := ⟨(.some 12), .none, (.plain (.lenS (.t 11)))⟩ :: ⟨(.some 13), .none, (.plain (.binI .geq (.t 7) (.t 12)))⟩ :: []
def Q38_5 : List AOp := ⟨(.some 4), .none, (.plain (.mv (.t 0)))⟩ :: ⟨(.some 5), .none, (.plain (.nilck (.t 4)))⟩ :: ⟨(.some 6), .none, (.plain (.faddr 1 (.t 5)))⟩ :: ⟨(.some 7), .none, (.plain (.load1 (.t 6)))⟩ :: ⟨(.some 8), .none, (.plain (.mv (.t 0)))⟩ :: ⟨(.some 9), .none, (.plain (.nilck (.t 8)))⟩ :: ⟨(.some 10), .none, (.plain (.faddr 0 (.t 9)))⟩ :: ⟨(.some 11), .none, (.plain (.load1 (.t 10)))⟩ :: Q38_5_1
def S38_5 : List AOp := []
def C38_5 : ACode := .draw [] 0 0 Q38_5 S38_5
def O38_8 : List AOp := [⟨(.some 14), .none, (.plain (.mv (.t 0)))⟩, ⟨(.some 15), .none, (.plain (.mv (.t 0)))⟩, ⟨(.some 16), .none, (.plain (.nilck (.t 15)))⟩, ⟨(.some 17), .none, (.plain (.faddr 0 (.t 16)))⟩, ⟨(.some 18), .none, (.plain (.load1 (.t 17)))⟩, ⟨(.some 19), .none, (.plain (.lenS (.t 18)))⟩, ⟨(.some 20), .none, (.call 39 [(.t 14), (.t 19)])⟩, ⟨.none, .none, (.plain (.store 6 (.t 2) (.t 20)))⟩]
def C38_8 : ACode := .ops O38_8
def C38_9 : ACode := .ret
def C38_7 : ACode := .seq C38_8 C38_9
def C38_10 : ACode := .skip
def C38_6 : ACode := .cond (.t 13) C38_7 C38_10
def C38_4 : ACode := .seq C38_5 C38_6
def Q38_12_1 : List AOp := ⟨(.some 29), .none, (.plain (.ixS (.t 24) (.t 28)))⟩ :: ⟨(.some 3), .none, (.plain (.mv (.t 29)))⟩ :: []
def Q38_12 : List AOp := ⟨(.some 21), .none, (.plain (.mv (.t 0)))⟩ :: ⟨(.some 22), .none, (.plain (.nilck (.t 21)))⟩ :: ⟨(.some 23), .none, (.plain (.faddr 0 (.t 22)))⟩ :: ⟨(.some 24), .none, (.plain (.load1 (.t 23)))⟩ :: ⟨(.some 25), .none, (.plain (.mv (.t 0)))⟩ :: ⟨(.some 26), .none, (.plain (.nilck (.t 25)))⟩ :: ⟨(.some 27), .none, (.plain (.faddr 1 (.t 26)))⟩ :: ⟨(.some 28), .none, (.plain (.load1 (.t 27)))⟩ :: Q38_12_1
def S38_12 : List AOp := []
def C38_12 : ACode := .draw [] 0 0 Q38_12 S38_12
def Q38_15_6 : List AOp := ⟨(.some 78), (.some (70, false)), (.plain (.load1 (.t 77)))⟩ :: ⟨(.some 79), (.some (70, false)), (.plain (.binI .add (.t 78) (.c (.int .i64 1))))⟩ :: ⟨(.some 80), (.some (70, false)), (.plain (.ixS (.t 74) (.t 79)))⟩ :: ⟨(.some 81), (.some (70, false)), (.plain (.binI .eql (.t 80) (.c (.int .u8 46))))⟩ :: ⟨(.some 82), (.some (45, true)), (.plain (.pick (.t 70) (.c (.bool true)) (.t 81)))⟩ :: ⟨(.some 83), .none, (.plain (.pick (.t 45) (.t 82) (.c (.bool false))))⟩ :: []
def Q38_15_5 : List AOp := ⟨(.some 70), (.some (45, true)), (.plain (.mv (.t 69)))⟩ :: ⟨(.some 71), (.some (70, false)), (.plain (.mv (.t 0)))⟩ :: ⟨(.some 72), (.some (70, false)), (.plain (.nilck (.t 71)))⟩ :: ⟨(.some 73), (.some (70, false)), (.plain (.faddr 0 (.t 72)))⟩ :: ⟨(.some 74), (.some (70, false)), (.plain (.load1 (.t 73)))⟩ :: ⟨(.some 75), (.some (70, false)), (.plain (.mv (.t 0)))⟩ :: ⟨(.some 76), (.some (70, false)), (.plain (.nilck (.t 75)))⟩ :: ⟨(.some 77), (.some (70, false)), (.plain (.faddr 1 (.t 76)))⟩ :: Q38_15_6
def Q38_15_4 : List AOp := ⟨(.some 62), (.some (57, false)), (.plain (.mv (.t 0)))⟩ :: ⟨(.some 63), (.some (57, false)), (.plain (.nilck (.t 62)))⟩ :: ⟨(.some 64), (.some (57, false)), (.plain (.faddr 1 (.t 63)))⟩ :: ⟨(.some 65), (.some (57, false)), (.plain (.load1 (.t 64)))⟩ :: ⟨(.some 66), (.some (57, false)), (.plain (.binI .add (.t 65) (.c (.int .i64 1))))⟩ :: ⟨(.some 67), (.some (57, false)), (.plain (.ixS (.t 61) (.t 66)))⟩ :: ⟨(.some 68), (.some (57, false)), (.plain (.binI .eql (.t 67) (.c (.int .u8 61))))⟩ :: ⟨(.some 69), (.some (45, true)), (.plain (.pick (.t 57) (.c (.bool true)) (.t 68)))⟩ :: Q38_15_5
def Q38_15_3 : List AOp := ⟨(.some 54), (.some (45, true)), (.plain (.binI .add (.t 53) (.c (.int .i64 1))))⟩ :: ⟨(.some 55), (.some (45, true)), (.plain (.ixS (.t 49) (.t 54)))⟩ :: ⟨(.some 56), (.some (45, true)), (.plain (.binI .eql (.t 55) (.c (.int .u8 58))))⟩ :: ⟨(.some 57), (.some (45, true)), (.plain (.mv (.t 56)))⟩ :: ⟨(.some 58), (.some (57, false)), (.plain (.mv (.t 0)))⟩ :: ⟨(.some 59), (.some (57, false)), (.plain (.nilck (.t 58)))⟩ :: ⟨(.some 60), (.some (57, false)), (.plain (.faddr 0 (.t 59)))⟩ :: ⟨(.some 61), (.some (57, false)), (.plain (.load1 (.t 60)))⟩ :: Q38_15_4
def Q38_15_2 : List AOp := ⟨(.some 46), (.some (45, true)), (.plain (.mv (.t 0)))⟩ :: ⟨(.some 47), (.some (45, true)), (.plain (.nilck (.t 46)))⟩ :: ⟨(.some 48), (.some (45, true)), (.plain (.faddr 0 (.t 47)))⟩ :: ⟨(.some 49), (.some (45, true)), (.plain (.load1 (.t 48)))⟩ :: ⟨(.some 50), (.some (45, true)), (.plain (.mv (.t 0)))⟩ :: ⟨(.some 51), (.some (45, true)), (.plain (.nilck (.t 50)))⟩ :: ⟨(.some 52), (.some (45, true)), (.plain (.faddr 1 (.t 51)))⟩ :: ⟨(.some 53), (.some (45, true)), (.plain (.load1 (.t 52)))⟩ :: Q38_15_3
def Q38_15_1 : List AOp := ⟨(.some 38), (.some (32, true)), (.plain (.mv (.t 0)))⟩ :: ⟨(.some 39), (.some (32, true)), (.plain (.nilck (.t 38)))⟩ :: ⟨(.some 40), (.some (32, true)), (.plain (.faddr 0 (.t 39)))⟩ :: ⟨(.some 41), (.some (32, true)), (.plain (.load1 (.t 40)))⟩ :: ⟨(.some 42), (.some (32, true)), (.plain (.lenS (.t 41)))⟩ :: ⟨(.some 43), (.some (32, true)), (.plain (.binI .lss (.t 37) (.t 42)))⟩ :: ⟨(.some 44), .none, (.plain (.pick (.t 32) (.t 43) (.c (.bool false))))⟩ :: ⟨(.some 45), .none, (.plain (.mv (.t 44)))⟩ :: Q38_15_2
def Q38_15 : List AOp := ⟨(.some 30), .none, (.plain (.mv (.t 3)))⟩ :: ⟨(.some 31), .none, (.plain (.binI .eql (.t 30) (.c (.int .u8 91))))⟩ :: ⟨(.some 32), .none, (.plain (.mv (.t 31)))⟩ :: ⟨(.some 33), (.some (32, true)), (.plain (.mv (.t 0)))⟩ :: ⟨(.some 34), (.some (32, true)), (.plain (.nilck (.t 33)))⟩ :: ⟨(.some 35), (.some (32, true)), (.plain (.faddr 1 (.t 34)))⟩ :: ⟨(.some 36), (.some (32, true)), (.plain (.load1 (.t 35)))⟩ :: ⟨(.some 37), (.some (32, true)), (.plain (.binI .add (.t 36) (.c (.int .i64 1))))⟩ :: Q38_15_1
def S38_15 : List AOp := []
def C38_15 : ACode := .draw [] 0 0 Q38_15 S38_15
def O38_18 : List AOp := [⟨(.some 84), .none, (.plain (.mv (.t 0)))⟩, ⟨(.some 85), .none, (.call 44 [(.t 84)])⟩, ⟨.none, .none, (.plain (.store 6 (.t 2) (.t 85)))⟩]
def C38_18 : ACode := .ops O38_18
def C38_19 : ACode := .ret
def C38_17 : ACode := .seq C38_18 C38_19
def C38_20 : ACode := .skip
def C38_16 : ACode := .cond (.t 83) C38_17 C38_20
def C38_14 : ACode := .seq C38_15 C38_16
def O38_22 : List AOp := [⟨(.some 86), .none, (.plain (.mv (.t 0)))⟩, ⟨(.some 87), .none, (.plain (.nilck (.t 86)))⟩, ⟨(.some 88), .none, (.plain (.faddr 1 (.t 87)))⟩, ⟨(.some 89), .none, (.plain (.load1 (.t 88)))⟩, ⟨(.some 90), .none, (.plain (.binI .add (.t 89) (.c (.int .i64 1))))⟩, ⟨(.some 91), .none, (.plain (.nilck (.t 86)))⟩, ⟨(.some 92), .none, (.plain (.faddr 1 (.t 91)))⟩, ⟨.none, .none, (.plain (.store 1 (.t 92) (.t 90)))⟩]
def C38_22 : ACode := .ops O38_22
def Q38_25_3 : List AOp := ⟨(.some 117), (.some (107, true)), (.plain (.binI .eql (.t 116) (.c (.int .u8 110))))⟩ :: ⟨(.some 118), .none, (.plain (.pick (.t 107) (.t 117) (.c (.bool false))))⟩ :: []
def Q38_25_2 : List AOp := ⟨(.some 109), (.some (107, true)), (.plain (.nilck (.t 108)))⟩ :: ⟨(.some 110), (.some (107, true)), (.plain (.faddr 0 (.t 109)))⟩ :: ⟨(.some 111), (.some (107, true)), (.plain (.load1 (.t 110)))⟩ :: ⟨(.some 112), (.some (107, true)), (.plain (.mv (.t 0)))⟩ :: ⟨(.some 113), (.some (107, true)), (.plain (.nilck (.t 112)))⟩ :: ⟨(.some 114), (.some (107, true)), (.plain (.faddr 1 (.t 113)))⟩ :: ⟨(.some 115), (.some (107, true)), (.plain (.load1 (.t 114)))⟩ :: ⟨(.some 116), (.some (107, true)), (.plain (.ixS (.t 111) (.t 115)))⟩ :: Q38_25_3
def Q38_25_1 : List AOp := ⟨(.some 101), (.some (95, true)), (.plain (.nilck (.t 100)))⟩ :: ⟨(.some 102), (.some (95, true)), (.plain (.faddr 0 (.t 101)))⟩ :: ⟨(.some 103), (.some (95, true)), (.plain (.load1 (.t 102)))⟩ :: ⟨(.some 104), (.some (95, true)), (.plain (.lenS (.t 103)))⟩ :: ⟨(.some 105), (.some (95, true)), (.plain (.binI .lss (.t 99) (.t 104)))⟩ :: ⟨(.some 106), .none, (.plain (.pick (.t 95) (.t 105) (.c (.bool false))))⟩ :: ⟨(.some 107), .none, (.plain (.mv (.t 106)))⟩ :: ⟨(.some 108), (.some (107, true)), (.plain (.mv (.t 0)))⟩ :: Q38_25_2
def Q38_25 : List AOp := ⟨(.some 93), .none, (.plain (.mv (.t 3)))⟩ :: ⟨(.some 94), .none, (.plain (.binI .eql (.t 93) (.c (.int .u8 92))))⟩ :: ⟨(.some 95), .none, (.plain (.mv (.t 94)))⟩ :: ⟨(.some 96), (.some (95, true)), (.plain (.mv (.t 0)))⟩ :: ⟨(.some 97), (.some (95, true)), (.plain (.nilck (.t 96)))⟩ :: ⟨(.some 98), (.some (95, true)), (.plain (.faddr 1 (.t 97)))⟩ :: ⟨(.some 99), (.some (95, true)), (.plain (.load1 (.t 98)))⟩ :: ⟨(.some 100), (.some (95, true)), (.plain (.mv (.t 0)))⟩ :: Q38_25_1
def S38_25 : List AOp := []
def C38_25 : ACode := .draw [] 0 0 Q38_25 S38_25
def O38_28 : List AOp := [⟨(.some 119), .none, (.plain (.mv (.t 0)))⟩, ⟨(.some 120), .none, (.plain (.nilck (.t 119)))⟩, ⟨(.some 121), .none, (.plain (.faddr 1 (.t 120)))⟩, ⟨(.some 122), .none, (.plain (.load1 (.t 121)))⟩, ⟨(.some 123), .none, (.plain (.binI .add (.t 122) (.c (.int .i64 1))))⟩, ⟨(.some 124), .none, (.plain (.nilck (.t 119)))⟩, ⟨(.some 125), .none, (.plain (.faddr 1 (.t 124)))⟩, ⟨.none, .none, (.plain (.store 1 (.t 125) (.t 123)))⟩]
def C38_28 : ACode := .ops O38_28
def O38_29 : List AOp := [⟨(.some 3), .none, (.plain (.mv (.c (.int .u8 10))))⟩]
def C38_29 : ACode := .ops O38_29
def C38_27 : ACode := .seq C38_28 C38_29
def C38_30 : ACode := .skip
def C38_26 : ACode := .cond (.t 118) C38_27 C38_30
def C38_24 : ACode := .seq C38_25 C38_26
def O38_32 : List AOp := [⟨(.some 126), .none, (.plain (.mv (.t 3)))⟩, ⟨(.some 127), .none, (.plain (.bslice 1 1 false [(.int .u8 0)] [(0, (1, (.t 126)))] false))⟩, ⟨(.some 128), .none, (.call 12 [(.t 127)])⟩, ⟨(.some 129), .none, (.plain (.mv (.t 3)))⟩, ⟨(.some 130), .none, (.plain (.build [(.int .u64 0), (.int .u64 0), (.int .u64 0), (.int .u64 0), (.int .u8 0), (.bool false)] [(0, (4, (.t 128))), (4, (1, (.t 129))), (5, (1, (.c (.bool true))))]))⟩, ⟨.none, .none, (.plain (.store 6 (.t 2) (.t 130)))⟩]
def C38_32 : ACode := .ops O38_32
def C38_33 : ACode := .ret
def C38_31 : ACode := .seq C38_32 C38_33
def C38_23 : ACode := .seq C38_24 C38_31
def C38_21 : ACode := .seq C38_22 C38_23
def C38_13 : ACode := .seq C38_14 C38_21
def C38_11 : ACode := .seq C38_12 C38_13
def C38_3 : ACode := .seq C38_4 C38_11
def C38_1 : ACode := .seq C38_2 C38_3
def R38 : List RA := [(.cellN 2 6)]
theorem k38 : compF Try.prog (muL []) 38 = some ⟨131, C38_1, R38⟩ := by kernel_rfl
noncomputable def X38 (K : AV → Store → Prop) : Cx := ⟨Try.prog, noG, 131, muL [], R38, isK K⟩
inductive St38 where
  | p1 (r_ : T52) (t2 : T54)
  | p2 (c : Int) (r_ : T52) (t2 : T54)
  | p3 (c : Int) (r_ : T52) (t2 : T54)
noncomputable def G38 : St38 → Option (T54 × T52)
  | .p1 r_ t2 =>
    (F44 r_ >>= fun r37 =>
      (some (r37.1, r37.2)))
  | .p2 c r_ t2 =>
    (if (c == 92) = true then
      (if (decide ((({ r_ with i := IntKind.wrap .i64 (r_.i + 1) } : T52).i) < ((({ r_ with i := IntKind.wrap .i64 (r_.i + 1) } : T52).s).length : Int))) = true then
        (ix (({ r_ with i := IntKind.wrap .i64 (r_.i + 1) } : T52).s) (({ r_ with i := IntKind.wrap .i64 (r_.i + 1) } : T52).i) >>= fun b56 =>
          (if ((b56.toNat : Int) == 110) = true then
            (G38 (.p3 10 ({ ({ r_ with i := IntKind.wrap .i64 (r_.i + 1) } : T52) with i := IntKind.wrap .i64 ((({ r_ with i := IntKind.wrap .i64 (r_.i + 1) } : T52).i) + 1) } : T52) t2))
          else
            (G38 (.p3 c ({ r_ with i := IntKind.wrap .i64 (r_.i + 1) } : T52) t2))))
      else
        (G38 (.p3 c ({ r_ with i := IntKind.wrap .i64 (r_.i + 1) } : T52) t2)))
    else
      (G38 (.p3 c ({ r_ with i := IntKind.wrap .i64 (r_.i + 1) } : T52) t2)))
  | .p3 c r_ t2 =>
    (F12 (some ([c] : List Int)) >>= fun r72 =>
      (some (({ set := r72, c := c, one := true } : T54), r_)))
  partial_fixpoint
def M38 (x : St38) (r : T54 × T52) : Prop := match x with
  | .p1 r_ t2 => ∀ (K : AV → Store → Prop) (st0 : Store) (ia : Nat), (∀ st', Keep (fun j => j = ia) st0 st' → st'[ia]? = some (.cells (c52 r.2)) → K (AV.agg (c54 r.1)) st') → ∀ (tm : Fr) (st : Store) (i1 : Nat), tm 0 = .ptr ia 0 → tm 2 = .ptr i1 0 → st[ia]? = some (.cells (c52 r_)) → st[i1]? = some (.cells (c54 t2)) → ia ≠ i1 → Keep (fun j => j = ia) st0 st → (∀ j ob, st0[j]? = some ob → j ≠ i1) → At (X38 K) C38_17 [.seq C38_21] tm st
  | .p2 c r_ t2 => ∀ (K : AV → Store → Prop) (st0 : Store) (ia : Nat), (∀ st', Keep (fun j => j = ia) st0 st' → st'[ia]? = some (.cells (c52 r.2)) → K (AV.agg (c54 r.1)) st') → ∀ (tm : Fr) (st : Store) (i1 : Nat), tm 0 = .ptr ia 0 → tm 2 = .ptr i1 0 → tm 3 = AV.int .u8 c → st[ia]? = some (.cells (c52 r_)) → st[i1]? = some (.cells (c54 t2)) → ia ≠ i1 → Keep (fun j => j = ia) st0 st → (∀ j ob, st0[j]? = some ob → j ≠ i1) → At (X38 K) C38_21 [] tm st
  | .p3 c r_ t2 => ∀ (K : AV → Store → Prop) (st0 : Store) (ia : Nat), (∀ st', Keep (fun j => j = ia) st0 st' → st'[ia]? = some (.cells (c52 r.2)) → K (AV.agg (c54 r.1)) st') → ∀ (tm : Fr) (st : Store) (i1 : Nat), tm 2 = .ptr i1 0 → tm 3 = AV.int .u8 c → st[ia]? = some (.cells (c52 r_)) → st[i1]? = some (.cells (c54 t2)) → ia ≠ i1 → Keep (fun j => j = ia) st0 st → (∀ j ob, st0[j]? = some ob → j ≠ i1) → At (X38 K) C38_31 [] tm st
theorem w38 : ∀ (x : St38) (r : T54 × T52), G38 x = some r → M38 x r := by
  refine G38.partial_correctness M38 ?_
  intro g ih x r hF
  cases x with
  | p1 r_ t2 =>
    dsimp only at hF
    intro K st0 ia hK tm st i1 h0 h2 o0 o1 n0_1 kp0 fr1
    refine at_seq (a := C38_18) (b := C38_19) ?_
    refine at_ops (l := O38_18) ?_
    refine xo (e_mv' (v := AV.ptr ia 0) h0) ?_
    obtain ⟨r37, g38, hF⟩ := bind_some hF
    refine xo_callO (al_cons (ar_eq rfl) al_nil) (d44 r_ _ g38 _ _ _ o0 fun s39 k40 o41 => ?_)
    have o42 := k40 _ _ o1 (Ne.symm n0_1)
    have kp43 := kp_tb kp0 k40 rfl
    refine xo_store h2 o42 (LR.whole _ _) (c54_len _) rfl rfl (c54_len _) (c54_one _) fun s44 o45 k46 => ?_
    have o47 := k46 _ _ o41 n0_1
    have kp48 := kp_tl kp43 k46 fr1
    refine ato_nil ?_
    refine atn_seq ?_
    refine at_ret ?_
    cases hF
    exact atr (rl_cellN h2 o45 (LR.whole _ _) (c54_len _) rl_nil) (isk (ds_eq rfl (ds_agg (c54_ds _))) (hK _ kp48 o47))
  | p2 c r_ t2 =>
    dsimp only at hF
    intro K st0 ia hK tm st i1 h0 h2 h3 o0 o1 n0_1 kp0 fr1
    refine at_seq (a := C38_22) (b := C38_23) ?_
    refine at_ops (l := O38_22) ?_
    refine xo (e_mv' (v := AV.ptr ia 0) h0) ?_
    refine xo (e_nilck rfl o0) ?_
    refine xo (e_faddr rfl o0) ?_
    refine xo (e_load1 rfl o0 (LR.comp (LR.whole _ _) (lr52_i r_ r_.i))) ?_
    refine xo (e_bin (v := .int .i64 (IntKind.wrap .i64 (r_.i + 1))) rfl rfl rfl) ?_
    refine xo (e_nilck rfl o0) ?_
    refine xo (e_faddr rfl o0) ?_
    refine xo_store rfl o0 (LR.comp (LR.whole _ _) (lr52_i r_ (IntKind.wrap .i64 (r_.i + 1)))) ((cI_len .i64) _) rfl rfl ((cI_len .i64) _) ((cI_one .i64) _) fun s49 o50 k51 => ?_
    have o52 := k51 _ _ o1 (Ne.symm n0_1)
    have kp53 := kp_tb kp0 k51 rfl
    refine ato_nil ?_
    refine atn_seq ?_
    refine at_seq (a := C38_24) (b := C38_31) ?_
    refine at_seq (a := C38_25) (b := C38_26) ?_
    refine at_draw0 (q := Q38_25) (suf := S38_25) ?_
    refine xd rfl (e_mv' (v := AV.int .u8 c) h3) ?_
    refine xd rfl (e_bin (v := .bool ((c == 92))) rfl rfl rfl) ?_
    refine xd rfl (e_mv' (v := AV.bool (c == 92)) rfl) ?_
    refine bsplit (b := (c == 92)) (fun c54 => ?_) (fun c54 => ?_)
    · have hF := ite_t c54 hF
      refine xd_on rfl c54 ?_
      refine xd rfl (e_mv' (v := AV.ptr ia 0) h0) ?_
      refine xd_on rfl c54 ?_
      refine xd rfl (e_nilck rfl o50) ?_
      refine xd_on rfl c54 ?_
      refine xd rfl (e_faddr rfl o50) ?_
      refine xd_on rfl c54 ?_
      refine xd rfl (e_load1 rfl o50 (LR.comp (LR.whole _ _) (lr52_i ({ r_ with i := IntKind.wrap .i64 (r_.i + 1) } : T52) (({ r_ with i := IntKind.wrap .i64 (r_.i + 1) } : T52).i)))) ?_
      refine xd_on rfl c54 ?_
      refine xd rfl (e_mv' (v := AV.ptr ia 0) h0) ?_
      refine xd_on rfl c54 ?_
      refine xd rfl (e_nilck rfl o50) ?_
      refine xd_on rfl c54 ?_
      refine xd rfl (e_faddr rfl o50) ?_
      refine xd_on rfl c54 ?_
      refine xd rfl (e_load1 rfl o50 (LR.comp (LR.whole _ _) (lr52_s ({ r_ with i := IntKind.wrap .i64 (r_.i + 1) } : T52) (({ r_ with i := IntKind.wrap .i64 (r_.i + 1) } : T52).s)))) ?_
      refine xd_on rfl c54 ?_
      refine xd rfl (e_lenS rfl) ?_
      refine xd_on rfl c54 ?_
      refine xd rfl (e_bin (v := .bool (decide ((({ r_ with i := IntKind.wrap .i64 (r_.i + 1) } : T52).i) < ((({ r_ with i := IntKind.wrap .i64 (r_.i + 1) } : T52).s).length : Int)))) rfl rfl rfl) ?_
      refine xd rfl (e_pick_t (v := AV.bool (decide ((({ r_ with i := IntKind.wrap .i64 (r_.i + 1) } : T52).i) < ((({ r_ with i := IntKind.wrap .i64 (r_.i + 1) } : T52).s).length : Int)))) rfl c54 rfl) ?_
      refine xd rfl (e_mv' (v := AV.bool (decide ((({ r_ with i := IntKind.wrap .i64 (r_.i + 1) } : T52).i) < ((({ r_ with i := IntKind.wrap .i64 (r_.i + 1) } : T52).s).length : Int)))) rfl) ?_
      refine bsplit (b := decide ((({ r_ with i := IntKind.wrap .i64 (r_.i + 1) } : T52).i) < ((({ r_ with i := IntKind.wrap .i64 (r_.i + 1) } : T52).s).length : Int))) (fun c55 => ?_) (fun c55 => ?_)
      · have hF := ite_t c55 hF
        refine xd_on rfl c55 ?_
        refine xd rfl (e_mv' (v := AV.ptr ia 0) h0) ?_
        refine xd_on rfl c55 ?_
        refine xd rfl (e_nilck rfl o50) ?_
        refine xd_on rfl c55 ?_
        refine xd rfl (e_faddr rfl o50) ?_
        refine xd_on rfl c55 ?_
        refine xd rfl (e_load1 rfl o50 (LR.comp (LR.whole _ _) (lr52_s ({ r_ with i := IntKind.wrap .i64 (r_.i + 1) } : T52) (({ r_ with i := IntKind.wrap .i64 (r_.i + 1) } : T52).s)))) ?_
        refine xd_on rfl c55 ?_
        refine xd rfl (e_mv' (v := AV.ptr ia 0) h0) ?_
        refine xd_on rfl c55 ?_
        refine xd rfl (e_nilck rfl o50) ?_
        refine xd_on rfl c55 ?_
        refine xd rfl (e_faddr rfl o50) ?_
        refine xd_on rfl c55 ?_
        refine xd rfl (e_load1 rfl o50 (LR.comp (LR.whole _ _) (lr52_i ({ r_ with i := IntKind.wrap .i64 (r_.i + 1) } : T52) (({ r_ with i := IntKind.wrap .i64 (r_.i + 1) } : T52).i)))) ?_
        obtain ⟨b56, g57, hF⟩ := bind_some hF
        refine xd_on rfl c55 ?_
        refine xd rfl (e_ixS rfl rfl g57) ?_
        refine xd_on rfl c55 ?_
        refine xd rfl (e_bin (v := .bool (((b56.toNat : Int) == 110))) rfl rfl rfl) ?_
        refine xd rfl (e_pick_t (v := AV.bool ((b56.toNat : Int) == 110)) rfl c55 rfl) ?_
        refine atd_nil ?_
        refine ato_nil ?_
        refine atn_seq ?_
        refine at_cond (x := C38_27) (y := C38_30) rfl (fun c58 => ?_) (fun c58 => ?_)
        · have hF := ite_t c58 hF
          refine at_seq (a := C38_28) (b := C38_29) ?_
          refine at_ops (l := O38_28) ?_
          refine xo (e_mv' (v := AV.ptr ia 0) h0) ?_
          refine xo (e_nilck rfl o50) ?_
          refine xo (e_faddr rfl o50) ?_
          refine xo (e_load1 rfl o50 (LR.comp (LR.whole _ _) (lr52_i ({ r_ with i := IntKind.wrap .i64 (r_.i + 1) } : T52) (({ r_ with i := IntKind.wrap .i64 (r_.i + 1) } : T52).i)))) ?_
          refine xo (e_bin (v := .int .i64 (IntKind.wrap .i64 ((({ r_ with i := IntKind.wrap .i64 (r_.i + 1) } : T52).i) + 1))) rfl rfl rfl) ?_
          refine xo (e_nilck rfl o50) ?_
          refine xo (e_faddr rfl o50) ?_
          refine xo_store rfl o50 (LR.comp (LR.whole _ _) (lr52_i ({ r_ with i := IntKind.wrap .i64 (r_.i + 1) } : T52) (IntKind.wrap .i64 ((({ r_ with i := IntKind.wrap .i64 (r_.i + 1) } : T52).i) + 1)))) ((cI_len .i64) _) rfl rfl ((cI_len .i64) _) ((cI_one .i64) _) fun s59 o60 k61 => ?_
          have o62 := k61 _ _ o52 (Ne.symm n0_1)
          have kp63 := kp_tb kp53 k61 rfl
          refine ato_nil ?_
          refine atn_seq ?_
          refine at_ops (l := O38_29) ?_
          refine xo (e_mv' (v := AV.int .u8 10) rfl) ?_
          refine ato_nil ?_
          refine atn_seq ?_
          exact ih (.p3 10 ({ ({ r_ with i := IntKind.wrap .i64 (r_.i + 1) } : T52) with i := IntKind.wrap .i64 ((({ r_ with i := IntKind.wrap .i64 (r_.i + 1) } : T52).i) + 1) } : T52) t2) _ hF K st0 ia hK _ _ _ h2 rfl o60 o62 n0_1 kp63 fr1
        · have hF := ite_f c58 hF
          refine at_skip ?_
          refine atn_seq ?_
          exact ih (.p3 c ({ r_ with i := IntKind.wrap .i64 (r_.i + 1) } : T52) t2) _ hF K st0 ia hK _ _ _ h2 h3 o50 o52 n0_1 kp53 fr1
      · have hF := ite_f c55 hF
        refine xd_off rfl c55 rfl ?_
        refine xd_off rfl c55 rfl ?_
        refine xd_off rfl c55 rfl ?_
        refine xd_off rfl c55 rfl ?_
        refine xd_off rfl c55 rfl ?_
        refine xd_off rfl c55 rfl ?_
        refine xd_off rfl c55 rfl ?_
        refine xd_off rfl c55 rfl ?_
        refine xd_off rfl c55 rfl ?_
        refine xd_off rfl c55 rfl ?_
        refine xd rfl (e_pick_f (v := AV.bool false) rfl c55 rfl) ?_
        refine atd_nil ?_
        refine ato_nil ?_
        refine atn_seq ?_
        refine at_cond_f (x := C38_27) (y := C38_30) rfl rfl ?_
        refine at_skip ?_
        refine atn_seq ?_
        exact ih (.p3 c ({ r_ with i := IntKind.wrap .i64 (r_.i + 1) } : T52) t2) _ hF K st0 ia hK _ _ _ h2 h3 o50 o52 n0_1 kp53 fr1
    · have hF := ite_f c54 hF
      refine xd_off rfl c54 rfl ?_
      refine xd_off rfl c54 rfl ?_
      refine xd_off rfl c54 rfl ?_
      refine xd_off rfl c54 rfl ?_
      refine xd_off rfl c54 rfl ?_
      refine xd_off rfl c54 rfl ?_
      refine xd_off rfl c54 rfl ?_
      refine xd_off rfl c54 rfl ?_
      refine xd_off rfl c54 rfl ?_
      refine xd_off rfl c54 rfl ?_
      refine xd rfl (e_pick_f (v := AV.bool false) rfl c54 rfl) ?_
      refine xd rfl (e_mv' (v := AV.bool false) rfl) ?_
      refine xd_off rfl rfl rfl ?_
      refine xd_off rfl rfl rfl ?_
      refine xd_off rfl rfl rfl ?_
      refine xd_off rfl rfl rfl ?_
      refine xd_off rfl rfl rfl ?_
      refine xd_off rfl rfl rfl ?_
      refine xd_off rfl rfl rfl ?_
      refine xd_off rfl rfl rfl ?_
      refine xd_off rfl rfl rfl ?_
      refine xd_off rfl rfl rfl ?_
      refine xd rfl (e_pick_f (v := AV.bool false) rfl rfl rfl) ?_
      refine atd_nil ?_
      refine ato_nil ?_
      refine atn_seq ?_
      refine at_cond_f (x := C38_27) (y := C38_30) rfl rfl ?_
      refine at_skip ?_
      refine atn_seq ?_
      exact ih (.p3 c ({ r_ with i := IntKind.wrap .i64 (r_.i + 1) } : T52) t2) _ hF K st0 ia hK _ _ _ h2 h3 o50 o52 n0_1 kp53 fr1
  | p3 c r_ t2 =>
    dsimp only at hF
    intro K st0 ia hK tm st i1 h2 h3 o0 o1 n0_1 kp0 fr1
    refine at_seq (a := C38_32) (b := C38_33) ?_
    refine at_ops (l := O38_32) ?_
    refine xo (e_mv' (v := AV.int .u8 c) h3) ?_
    refine xo_bslice (f := AV.int .u8) (m := ([c] : List Int)) (pk_cons (cs := (cI .u8) c) rfl rfl ((cI_len .u8) _) (by decide) pk_nil) rfl rfl rfl fun s64 i65 o66 k67 q68 => ?_
    have o69 := keep0 k67 o0
    have o70 := keep0 k67 o1
    have kp71 := kp_t0 kp0 k67
    obtain ⟨r72, g73, hF⟩ := bind_some hF
    refine xo_dfun' (d12 (some ([c] : List Int)) _ g73) (dsl_cons (ds_rd (fun _ => ds_i) (rd_T rfl)) dsl_nil) ?_
    refine xo (e_mv' (v := AV.int .u8 c) h3) ?_
    refine xo (e_build (z := [(.int .u64 0), (.int .u64 0), (.int .u64 0), (.int .u64 0), (.int .u8 0), (.bool false)]) (cs := c54 ({ set := r72, c := c, one := true } : T54)) (pk_cons (cs := c24 r72) rfl rfl (c24_len _) (by decide) (pk_cons (cs := (cI .u8) c) rfl rfl ((cI_len .u8) _) (by decide) (pk_cons (cs := cB true) rfl rfl (cB_len _) (by decide) pk_nil))) (show fillA (c54 ({ set := (Arr.rep 4 0), c := 0, one := false } : T54)) _ = _ from (fl_cons (lr54_set ({ set := (Arr.rep 4 0), c := 0, one := false } : T54) r72) ((c24_len _).trans (c24_len _).symm) (fl_cons (lr54_c ({ ({ set := (Arr.rep 4 0), c := 0, one := false } : T54) with set := r72 } : T54) c) (((cI_len .u8) _).trans ((cI_len .u8) _).symm) (fl_cons (lr54_one ({ ({ ({ set := (Arr.rep 4 0), c := 0, one := false } : T54) with set := r72 } : T54) with c := c } : T54) true) ((cB_len _).trans (cB_len _).symm) (fl_nil _)))))) ?_
    refine xo_store h2 o70 (LR.whole _ _) (c54_len _) rfl rfl (c54_len _) (c54_one _) fun s74 o75 k76 => ?_
    have o77 := k76 _ _ o69 n0_1
    have kp78 := kp_tl kp71 k76 fr1
    refine ato_nil ?_
    refine atn_seq ?_
    refine at_ret ?_
    cases hF
    exact atr (rl_cellN h2 o75 (LR.whole _ _) (c54_len _) rl_nil) (isk (ds_eq rfl (ds_agg (c54_ds _))) (hK _ kp78 o77))
noncomputable def F38 (r_ : T52) : Option (T54 × T52) :=
  (if (decide (r_.i ≥ ((r_.s).length : Int))) = true then
    (F39 r_ ((r_.s).length : Int) >>= fun r12 =>
      (some (r12.1, r12.2)))
  else
    (ix r_.s r_.i >>= fun b24 =>
      (if ((b24.toNat : Int) == 91) = true then
        (if (decide ((IntKind.wrap .i64 (r_.i + 1)) < ((r_.s).length : Int))) = true then
          (ix r_.s (IntKind.wrap .i64 (r_.i + 1)) >>= fun b28 =>
            (if ((b28.toNat : Int) == 58) = true then
              (G38 (.p1 r_ ({ set := (Arr.rep 4 0), c := 0, one := false } : T54)))
            else
              (ix r_.s (IntKind.wrap .i64 (r_.i + 1)) >>= fun b31 =>
                (if ((b31.toNat : Int) == 61) = true then
                  (G38 (.p1 r_ ({ set := (Arr.rep 4 0), c := 0, one := false } : T54)))
                else
                  (ix r_.s (IntKind.wrap .i64 (r_.i + 1)) >>= fun b34 =>
                    (if ((b34.toNat : Int) == 46) = true then
                      (G38 (.p1 r_ ({ set := (Arr.rep 4 0), c := 0, one := false } : T54)))
                    else
                      (G38 (.p2 (b24.toNat : Int) r_ ({ set := (Arr.rep 4 0), c := 0, one := false } : T54)))))))))
        else
          (G38 (.p2 (b24.toNat : Int) r_ ({ set := (Arr.rep 4 0), c := 0, one := false } : T54))))
      else
        (G38 (.p2 (b24.toNat : Int) r_ ({ set := (Arr.rep 4 0), c := 0, one := false } : T54))))))
theorem d38 (r_ : T52) (r : T54 × T52) (hF : F38 r_ = some r) : ∀ (K : AV → Store → Prop) (st0 : Store) (ia : Nat), st0[ia]? = some (.cells (c52 r_)) → (∀ st', Keep (fun j => j = ia) st0 st' → st'[ia]? = some (.cells (c52 r.2)) → K (AV.agg (c54 r.1)) st') → XCall Try.prog noG 38 [.ptr ia 0] st0 K := by
  unfold F38 at hF
  intro K st0 ia ho hK
  refine xcallO_at k38 (Nat.le_of_ble_eq_true rfl) ?_
  have kp0 := keep_refl (fun j => j = ia) st0
  show At (X38 K) _ _ _ _
  refine at_seq (a := C38_2) (b := C38_3) ?_
  refine at_ops (l := O38_2) ?_
  refine xo_alloc (cs := c54 ({ set := (Arr.rep 4 0), c := 0, one := false } : T54)) rfl fun s2 i3 o4 k5 q6 => ?_
  have n7 : ia ≠ i3 := fun e => ne_new ho (e.trans q6)
  have fr8 := kp_fresh kp0 ho q6
  have o9 := keep0 k5 ho
  have kp10 := kp_t0 kp0 k5
  refine ato_nil ?_
  refine atn_seq ?_
  refine at_seq (a := C38_4) (b := C38_11) ?_
  refine at_seq (a := C38_5) (b := C38_6) ?_
  refine at_draw0 (q := Q38_5) (suf := S38_5) ?_
  refine xd rfl (e_mv' (v := AV.ptr ia 0) rfl) ?_
  refine xd rfl (e_nilck rfl o9) ?_
  refine xd rfl (e_faddr rfl o9) ?_
  refine xd rfl (e_load1 rfl o9 (LR.comp (LR.whole _ _) (lr52_i r_ r_.i))) ?_
  refine xd rfl (e_mv' (v := AV.ptr ia 0) rfl) ?_
  refine xd rfl (e_nilck rfl o9) ?_
  refine xd rfl (e_faddr rfl o9) ?_
  refine xd rfl (e_load1 rfl o9 (LR.comp (LR.whole _ _) (lr52_s r_ r_.s))) ?_
  refine xd rfl (e_lenS rfl) ?_
  refine xd rfl (e_bin (v := .bool (decide (r_.i ≥ ((r_.s).length : Int)))) rfl rfl rfl) ?_
  refine atd_nil ?_
  refine ato_nil ?_
  refine atn_seq ?_
  refine at_cond (x := C38_7) (y := C38_10) rfl (fun c11 => ?_) (fun c11 => ?_)
  · have hF := ite_t c11 hF
    refine at_seq (a := C38_8) (b := C38_9) ?_
    refine at_ops (l := O38_8) ?_
    refine xo (e_mv' (v := AV.ptr ia 0) rfl) ?_
    refine xo (e_mv' (v := AV.ptr ia 0) rfl) ?_
    refine xo (e_nilck rfl o9) ?_
    refine xo (e_faddr rfl o9) ?_
    refine xo (e_load1 rfl o9 (LR.comp (LR.whole _ _) (lr52_s r_ r_.s))) ?_
    refine xo (e_lenS rfl) ?_
    obtain ⟨r12, g13, hF⟩ := bind_some hF
    refine xo_callO (al_cons (ar_eq rfl) (al_cons (ar_eq rfl) al_nil)) (d39 r_ ((r_.s).length : Int) _ g13 _ _ _ o9 fun s14 k15 o16 => ?_)
    have o17 := k15 _ _ o4 (Ne.symm n7)
    have kp18 := kp_tb kp10 k15 rfl
    refine xo_store rfl o17 (LR.whole _ _) (c54_len _) rfl rfl (c54_len _) (c54_one _) fun s19 o20 k21 => ?_
    have o22 := k21 _ _ o16 n7
    have kp23 := kp_tl kp18 k21 fr8
    refine ato_nil ?_
    refine atn_seq ?_
    refine at_ret ?_
    cases hF
    exact atr (rl_cellN rfl o20 (LR.whole _ _) (c54_len _) rl_nil) (isk (ds_eq rfl (ds_agg (c54_ds _))) (hK _ kp23 o22))
  · have hF := ite_f c11 hF
    refine at_skip ?_
    refine atn_seq ?_
    refine at_seq (a := C38_12) (b := C38_13) ?_
    refine at_draw0 (q := Q38_12) (suf := S38_12) ?_
    refine xd rfl (e_mv' (v := AV.ptr ia 0) rfl) ?_
    refine xd rfl (e_nilck rfl o9) ?_
    refine xd rfl (e_faddr rfl o9) ?_
    refine xd rfl (e_load1 rfl o9 (LR.comp (LR.whole _ _) (lr52_s r_ r_.s))) ?_
    refine xd rfl (e_mv' (v := AV.ptr ia 0) rfl) ?_
    refine xd rfl (e_nilck rfl o9) ?_
    refine xd rfl (e_faddr rfl o9) ?_
    refine xd rfl (e_load1 rfl o9 (LR.comp (LR.whole _ _) (lr52_i r_ r_.i))) ?_
    obtain ⟨b24, g25, hF⟩ := bind_some hF
    refine xd rfl (e_ixS rfl rfl g25) ?_
    refine xd rfl (e_mv' (v := AV.int .u8 (b24.toNat : Int)) rfl) ?_
    refine atd_nil ?_
    refine ato_nil ?_
    refine atn_seq ?_
    refine at_seq (a := C38_14) (b := C38_21) ?_
    refine at_seq (a := C38_15) (b := C38_16) ?_
    refine at_draw0 (q := Q38_15) (suf := S38_15) ?_
    refine xd rfl (e_mv' (v := AV.int .u8 (b24.toNat : Int)) rfl) ?_
    refine xd rfl (e_bin (v := .bool (((b24.toNat : Int) == 91))) rfl rfl rfl) ?_
    refine xd rfl (e_mv' (v := AV.bool ((b24.toNat : Int) == 91)) rfl) ?_
    refine bsplit (b := ((b24.toNat : Int) == 91)) (fun c26 => ?_) (fun c26 => ?_)
    · have hF := ite_t c26 hF
      refine xd_on rfl c26 ?_
      refine xd rfl (e_mv' (v := AV.ptr ia 0) rfl) ?_
      refine xd_on rfl c26 ?_
      refine xd rfl (e_nilck rfl o9) ?_
      refine xd_on rfl c26 ?_
      refine xd rfl (e_faddr rfl o9) ?_
      refine xd_on rfl c26 ?_
      refine xd rfl (e_load1 rfl o9 (LR.comp (LR.whole _ _) (lr52_i r_ r_.i))) ?_
      refine xd_on rfl c26 ?_
      refine xd rfl (e_bin (v := .int .i64 (IntKind.wrap .i64 (r_.i + 1))) rfl rfl rfl) ?_
      refine xd_on rfl c26 ?_
      refine xd rfl (e_mv' (v := AV.ptr ia 0) rfl) ?_
      refine xd_on rfl c26 ?_
      refine xd rfl (e_nilck rfl o9) ?_
      refine xd_on rfl c26 ?_
      refine xd rfl (e_faddr rfl o9) ?_
      refine xd_on rfl c26 ?_
      refine xd rfl (e_load1 rfl o9 (LR.comp (LR.whole _ _) (lr52_s r_ r_.s))) ?_
      refine xd_on rfl c26 ?_
      refine xd rfl (e_lenS rfl) ?_
      refine xd_on rfl c26 ?_
      refine xd rfl (e_bin (v := .bool (decide ((IntKind.wrap .i64 (r_.i + 1)) < ((r_.s).length : Int)))) rfl rfl rfl) ?_
      refine xd rfl (e_pick_t (v := AV.bool (decide ((IntKind.wrap .i64 (r_.i + 1)) < ((r_.s).length : Int)))) rfl c26 rfl) ?_
      refine xd rfl (e_mv' (v := AV.bool (decide ((IntKind.wrap .i64 (r_.i + 1)) < ((r_.s).length : Int)))) rfl) ?_
      refine bsplit (b := decide ((IntKind.wrap .i64 (r_.i + 1)) < ((r_.s).length : Int))) (fun c27 => ?_) (fun c27 => ?_)
      · have hF := ite_t c27 hF
        refine xd_on rfl c27 ?_
        refine xd rfl (e_mv' (v := AV.ptr ia 0) rfl) ?_
        refine xd_on rfl c27 ?_
        refine xd rfl (e_nilck rfl o9) ?_
        refine xd_on rfl c27 ?_
        refine xd rfl (e_faddr rfl o9) ?_
        refine xd_on rfl c27 ?_
        refine xd rfl (e_load1 rfl o9 (LR.comp (LR.whole _ _) (lr52_s r_ r_.s))) ?_
        refine xd_on rfl c27 ?_
        refine xd rfl (e_mv' (v := AV.ptr ia 0) rfl) ?_
        refine xd_on rfl c27 ?_
        refine xd rfl (e_nilck rfl o9) ?_
        refine xd_on rfl c27 ?_
        refine xd rfl (e_faddr rfl o9) ?_
        refine xd_on rfl c27 ?_
        refine xd rfl (e_load1 rfl o9 (LR.comp (LR.whole _ _) (lr52_i r_ r_.i))) ?_
        refine xd_on rfl c27 ?_
        refine xd rfl (e_bin (v := .int .i64 (IntKind.wrap .i64 (r_.i + 1))) rfl rfl rfl) ?_
        obtain ⟨b28, g29, hF⟩ := bind_some hF
        refine xd_on rfl c27 ?_
        refine xd rfl (e_ixS rfl rfl g29) ?_
        refine xd_on rfl c27 ?_
        refine xd rfl (e_bin (v := .bool (((b28.toNat : Int) == 58))) rfl rfl rfl) ?_
        refine xd_on rfl c27 ?_
        refine xd rfl (e_mv' (v := AV.bool ((b28.toNat : Int) == 58)) rfl) ?_
        refine bsplit (b := ((b28.toNat : Int) == 58)) (fun c30 => ?_) (fun c30 => ?_)
        · have hF := ite_t c30 hF
          refine xd_off rfl c30 rfl ?_
          refine xd_off rfl c30 rfl ?_
          refine xd_off rfl c30 rfl ?_
          refine xd_off rfl c30 rfl ?_
          refine xd_off rfl c30 rfl ?_
          refine xd_off rfl c30 rfl ?_
          refine xd_off rfl c30 rfl ?_
          refine xd_off rfl c30 rfl ?_
          refine xd_off rfl c30 rfl ?_
          refine xd_off rfl c30 rfl ?_
          refine xd_off rfl c30 rfl ?_
          refine xd_on rfl c27 ?_
          refine xd rfl (e_pick_t (v := AV.bool true) rfl c30 rfl) ?_
          refine xd_on rfl c27 ?_
          refine xd rfl (e_mv' (v := AV.bool true) rfl) ?_
          refine xd_off rfl rfl rfl ?_
          refine xd_off rfl rfl rfl ?_
          refine xd_off rfl rfl rfl ?_
          refine xd_off rfl rfl rfl ?_
          refine xd_off rfl rfl rfl ?_
          refine xd_off rfl rfl rfl ?_
          refine xd_off rfl rfl rfl ?_
          refine xd_off rfl rfl rfl ?_
          refine xd_off rfl rfl rfl ?_
          refine xd_off rfl rfl rfl ?_
          refine xd_off rfl rfl rfl ?_
          refine xd_on rfl c27 ?_
          refine xd rfl (e_pick_t (v := AV.bool true) rfl rfl rfl) ?_
          refine xd rfl (e_pick_t (v := AV.bool true) rfl c27 rfl) ?_
          refine atd_nil ?_
          refine ato_nil ?_
          refine atn_seq ?_
          refine at_cond_t (x := C38_17) (y := C38_20) rfl rfl ?_
          exact w38 (.p1 r_ ({ set := (Arr.rep 4 0), c := 0, one := false } : T54)) _ hF K st0 ia hK _ _ _ rfl rfl o9 o4 n7 kp10 fr8
        · have hF := ite_f c30 hF
          refine xd_on rfl c30 ?_
          refine xd rfl (e_mv' (v := AV.ptr ia 0) rfl) ?_
          refine xd_on rfl c30 ?_
          refine xd rfl (e_nilck rfl o9) ?_
          refine xd_on rfl c30 ?_
          refine xd rfl (e_faddr rfl o9) ?_
          refine xd_on rfl c30 ?_
          refine xd rfl (e_load1 rfl o9 (LR.comp (LR.whole _ _) (lr52_s r_ r_.s))) ?_
          refine xd_on rfl c30 ?_
          refine xd rfl (e_mv' (v := AV.ptr ia 0) rfl) ?_
          refine xd_on rfl c30 ?_
          refine xd rfl (e_nilck rfl o9) ?_
          refine xd_on rfl c30 ?_
          refine xd rfl (e_faddr rfl o9) ?_
          refine xd_on rfl c30 ?_
          refine xd rfl (e_load1 rfl o9 (LR.comp (LR.whole _ _) (lr52_i r_ r_.i))) ?_
          refine xd_on rfl c30 ?_
          refine xd rfl (e_bin (v := .int .i64 (IntKind.wrap .i64 (r_.i + 1))) rfl rfl rfl) ?_
          obtain ⟨b31, g32, hF⟩ := bind_some hF
          refine xd_on rfl c30 ?_
          refine xd rfl (e_ixS rfl rfl g32) ?_
          refine xd_on rfl c30 ?_
          refine xd rfl (e_bin (v := .bool (((b31.toNat : Int) == 61))) rfl rfl rfl) ?_
          refine xd_on rfl c27 ?_
          refine xd rfl (e_pick_f (v := AV.bool ((b31.toNat : Int) == 61)) rfl c30 rfl) ?_
          refine xd_on rfl c27 ?_
          refine xd rfl (e_mv' (v := AV.bool ((b31.toNat : Int) == 61)) rfl) ?_
          refine bsplit (b := ((b31.toNat : Int) == 61)) (fun c33 => ?_) (fun c33 => ?_)
          · have hF := ite_t c33 hF
            refine xd_off rfl c33 rfl ?_
            refine xd_off rfl c33 rfl ?_
            refine xd_off rfl c33 rfl ?_
            refine xd_off rfl c33 rfl ?_
            refine xd_off rfl c33 rfl ?_
            refine xd_off rfl c33 rfl ?_
            refine xd_off rfl c33 rfl ?_
            refine xd_off rfl c33 rfl ?_
            refine xd_off rfl c33 rfl ?_
            refine xd_off rfl c33 rfl ?_
            refine xd_off rfl c33 rfl ?_
            refine xd_on rfl c27 ?_
            refine xd rfl (e_pick_t (v := AV.bool true) rfl c33 rfl) ?_
            refine xd rfl (e_pick_t (v := AV.bool true) rfl c27 rfl) ?_
            refine atd_nil ?_
            refine ato_nil ?_
            refine atn_seq ?_
            refine at_cond_t (x := C38_17) (y := C38_20) rfl rfl ?_
            exact w38 (.p1 r_ ({ set := (Arr.rep 4 0), c := 0, one := false } : T54)) _ hF K st0 ia hK _ _ _ rfl rfl o9 o4 n7 kp10 fr8
          · have hF := ite_f c33 hF
            refine xd_on rfl c33 ?_
            refine xd rfl (e_mv' (v := AV.ptr ia 0) rfl) ?_
            refine xd_on rfl c33 ?_
            refine xd rfl (e_nilck rfl o9) ?_
            refine xd_on rfl c33 ?_
            refine xd rfl (e_faddr rfl o9) ?_
            refine xd_on rfl c33 ?_
            refine xd rfl (e_load1 rfl o9 (LR.comp (LR.whole _ _) (lr52_s r_ r_.s))) ?_
            refine xd_on rfl c33 ?_
            refine xd rfl (e_mv' (v := AV.ptr ia 0) rfl) ?_
            refine xd_on rfl c33 ?_
            refine xd rfl (e_nilck rfl o9) ?_
            refine xd_on rfl c33 ?_
            refine xd rfl (e_faddr rfl o9) ?_
            refine xd_on rfl c33 ?_
            refine xd rfl (e_load1 rfl o9 (LR.comp (LR.whole _ _) (lr52_i r_ r_.i))) ?_
            refine xd_on rfl c33 ?_
            refine xd rfl (e_bin (v := .int .i64 (IntKind.wrap .i64 (r_.i + 1))) rfl rfl rfl) ?_
            obtain ⟨b34, g35, hF⟩ := bind_some hF
            refine xd_on rfl c33 ?_
            refine xd rfl (e_ixS rfl rfl g35) ?_
            refine xd_on rfl c33 ?_
            refine xd rfl (e_bin (v := .bool (((b34.toNat : Int) == 46))) rfl rfl rfl) ?_
            refine xd_on rfl c27 ?_
            refine xd rfl (e_pick_f (v := AV.bool ((b34.toNat : Int) == 46)) rfl c33 rfl) ?_
            refine xd rfl (e_pick_t (v := AV.bool ((b34.toNat : Int) == 46)) rfl c27 rfl) ?_
            refine atd_nil ?_
            refine ato_nil ?_
            refine atn_seq ?_
            refine at_cond (x := C38_17) (y := C38_20) rfl (fun c36 => ?_) (fun c36 => ?_)
            · have hF := ite_t c36 hF
              exact w38 (.p1 r_ ({ set := (Arr.rep 4 0), c := 0, one := false } : T54)) _ hF K st0 ia hK _ _ _ rfl rfl o9 o4 n7 kp10 fr8
            · have hF := ite_f c36 hF
              refine at_skip ?_
              refine atn_seq ?_
              exact w38 (.p2 (b24.toNat : Int) r_ ({ set := (Arr.rep 4 0), c := 0, one := false } : T54)) _ hF K st0 ia hK _ _ _ rfl rfl rfl o9 o4 n7 kp10 fr8
      · have hF := ite_f c27 hF
        refine xd_off rfl c27 rfl ?_
        refine xd_off rfl c27 rfl ?_
        refine xd_off rfl c27 rfl ?_
        refine xd_off rfl c27 rfl ?_
        refine xd_off rfl c27 rfl ?_
        refine xd_off rfl c27 rfl ?_
        refine xd_off rfl c27 rfl ?_
        refine xd_off rfl c27 rfl ?_
        refine xd_off rfl c27 rfl ?_
        refine xd_off rfl c27 rfl ?_
        refine xd_off rfl c27 rfl ?_
        refine xd_off rfl c27 rfl ?_
        refine xd_off' rfl rfl ?_
        refine xd_off' rfl rfl ?_
        refine xd_off' rfl rfl ?_
        refine xd_off' rfl rfl ?_
        refine xd_off' rfl rfl ?_
        refine xd_off' rfl rfl ?_
        refine xd_off' rfl rfl ?_
        refine xd_off' rfl rfl ?_
        refine xd_off' rfl rfl ?_
        refine xd_off' rfl rfl ?_
        refine xd_off' rfl rfl ?_
        refine xd_off rfl c27 rfl ?_
        refine xd_off rfl c27 rfl ?_
        refine xd_off' rfl rfl ?_
        refine xd_off' rfl rfl ?_
        refine xd_off' rfl rfl ?_
        refine xd_off' rfl rfl ?_
        refine xd_off' rfl rfl ?_
        refine xd_off' rfl rfl ?_
        refine xd_off' rfl rfl ?_
        refine xd_off' rfl rfl ?_
        refine xd_off' rfl rfl ?_
        refine xd_off' rfl rfl ?_
        refine xd_off' rfl rfl ?_
        refine xd_off rfl c27 rfl ?_
        refine xd rfl (e_pick_f (v := AV.bool false) rfl c27 rfl) ?_
        refine atd_nil ?_
        refine ato_nil ?_
        refine atn_seq ?_
        refine at_cond_f (x := C38_17) (y := C38_20) rfl rfl ?_
        refine at_skip ?_
        refine atn_seq ?_
        exact w38 (.p2 (b24.toNat : Int) r_ ({ set := (Arr.rep 4 0), c := 0, one := false } : T54)) _ hF K st0 ia hK _ _ _ rfl rfl rfl o9 o4 n7 kp10 fr8
    · have hF := ite_f c26 hF
      refine xd_off rfl c26 rfl ?_
      refine xd_off rfl c26 rfl ?_
      refine xd_off rfl c26 rfl ?_
      refine xd_off rfl c26 rfl ?_
      refine xd_off rfl c26 rfl ?_
      refine xd_off rfl c26 rfl ?_
      refine xd_off rfl c26 rfl ?_
      refine xd_off rfl c26 rfl ?_
      refine xd_off rfl c26 rfl ?_
      refine xd_off rfl c26 rfl ?_
      refine xd_off rfl c26 rfl ?_
      refine xd rfl (e_pick_f (v := AV.bool false) rfl c26 rfl) ?_
      refine xd rfl (e_mv' (v := AV.bool false) rfl) ?_
      refine xd_off rfl rfl rfl ?_
      refine xd_off rfl rfl rfl ?_
      refine xd_off rfl rfl rfl ?_
      refine xd_off rfl rfl rfl ?_
      refine xd_off rfl rfl rfl ?_
      refine xd_off rfl rfl rfl ?_
      refine xd_off rfl rfl rfl ?_
      refine xd_off rfl rfl rfl ?_
      refine xd_off rfl rfl rfl ?_
      refine xd_off rfl rfl rfl ?_
      refine xd_off rfl rfl rfl ?_
      refine xd_off rfl rfl rfl ?_
      refine xd_off' rfl rfl ?_
      refine xd_off' rfl rfl ?_
      refine xd_off' rfl rfl ?_
      refine xd_off' rfl rfl ?_
      refine xd_off' rfl rfl ?_
      refine xd_off' rfl rfl ?_
      refine xd_off' rfl rfl ?_
      refine xd_off' rfl rfl ?_
      refine xd_off' rfl rfl ?_
      refine xd_off' rfl rfl ?_
      refine xd_off' rfl rfl ?_
      refine xd_off rfl rfl rfl ?_
      refine xd_off rfl rfl rfl ?_
      refine xd_off' rfl rfl ?_
      refine xd_off' rfl rfl ?_
      refine xd_off' rfl rfl ?_
      refine xd_off' rfl rfl ?_
      refine xd_off' rfl rfl ?_
      refine xd_off' rfl rfl ?_
      refine xd_off' rfl rfl ?_
      refine xd_off' rfl rfl ?_
      refine xd_off' rfl rfl ?_
      refine xd_off' rfl rfl ?_
      refine xd_off' rfl rfl ?_
      refine xd_off rfl rfl rfl ?_
      refine xd rfl (e_pick_f (v := AV.bool false) rfl rfl rfl) ?_
      refine atd_nil ?_
      refine ato_nil ?_
      refine atn_seq ?_
      refine at_cond_f (x := C38_17) (y := C38_20) rfl rfl ?_
      refine at_skip ?_
      refine atn_seq ?_
      exact w38 (.p2 (b24.toNat : Int) r_ ({ set := (Arr.rep 4 0), c := 0, one := false } : T54)) _ hF K st0 ia hK _ _ _ rfl rfl rfl o9 o4 n7 kp10 fr8
/-! ### 22: paddock/sets.Bracket -/
def O22_2 : List AOp := [⟨(.some 2), .none, (.plain (.alloc [(.int .u64 0), (.int .u64 0), (.int .u64 0), (.int .u64 0)]))⟩, ⟨(.some 3), .none, (.plain (.mv (.c (.int .i64 0))))⟩, ⟨(.some 4), .none, (.plain (.mv (.c (.int .i64 0))))⟩, ⟨(.some 5), .none, (.plain (.mv (.c (.int .i64 0))))⟩]
def C22_2 : ACode := .ops O22_2
def O22_4 : List AOp := [⟨(.some 13), .none, (.plain (.mv (.t 0)))⟩, ⟨(.some 14), .none, (.plain (.build [(.str []), (.int .i64 0), (.int .i64 0)] [(0, (1, (.t 13))), (2, (1, (.c (.int .i64 (-1)))))]))⟩, ⟨(.some 15), .none, (.plain (.box 3 (.t 14)))⟩, ⟨(.some 6), .none, (.plain (.mv (.t 15)))⟩]
def C22_4 : ACode := .ops O22_4
def O22_6_1 : List AOp := ⟨(.some 7), .none, (.plain (.mv (.t 23)))⟩ :: []
def O22_6 : List AOp := ⟨(.some 16), .none, (.plain (.mv (.t 0)))⟩ :: ⟨(.some 17), .none, (.plain (.lenS (.t 16)))⟩ :: ⟨(.some 18), .none, (.plain (.binI .gtr (.t 17) (.c (.int .i64 0))))⟩ :: ⟨(.some 19), .none, (.plain (.mv (.t 18)))⟩ :: ⟨(.some 20), (.some (19, true)), (.plain (.mv (.t 0)))⟩ :: ⟨(.some 21), (.some (19, true)), (.plain (.ixS (.t 20) (.c (.int .i64 0))))⟩ :: ⟨(.some 22), (.some (19, true)), (.plain (.binI .eql (.t 21) (.c (.int .u8 94))))⟩ :: ⟨(.some 23), .none, (.plain (.pick (.t 19) (.t 22) (.c (.bool false))))⟩ :: O22_6_1
def C22_6 : ACode := .ops O22_6
def O22_9 : List AOp := [⟨(.some 24), .none, (.plain (.mv (.t 7)))⟩]
def C22_9 : ACode := .ops O22_9
def O22_11 : List AOp := [⟨(.some 25), .none, (.plain (.mv (.t 6)))⟩, ⟨(.some 26), .none, (.plain (.nilck (.t 25)))⟩, ⟨(.some 27), .none, (.plain (.faddr 1 (.t 26)))⟩, ⟨(.some 28), .none, (.plain (.load1 (.t 27)))⟩, ⟨(.some 29), .none, (.plain (.binI .add (.t 28) (.c (.int .i64 1))))⟩, ⟨(.some 30), .none, (.plain (.nilck (.t 25)))⟩, ⟨(.some 31), .none, (.plain (.faddr 1 (.t 30)))⟩, ⟨.none, .none, (.plain (.store 1 (.t 31) (.t 29)))⟩]
def C22_11 : ACode := .ops O22_11
def C22_12 : ACode := .skip
def C22_10 : ACode := .cond (.t 24) C22_11 C22_12
def C22_8 : ACode := .seq C22_9 C22_10
def O22_14 : List AOp := [⟨(.some 8), .none, (.plain (.alloc [(.int .u64 0), (.int .u64 0), (.int .u64 0), (.int .u64 0)]))⟩]
def C22_14 : ACode := .ops O22_14
def O22_17 : List AOp := [⟨(.some 9), .none, (.plain (.mv (.c (.bool true))))⟩]
def C22_17 : ACode := .ops O22_17
def O22_22_2 : List AOp := ⟨(.some 48), (.some (42, false)), (.plain (.ixS (.t 43) (.t 47)))⟩ :: ⟨(.some 49), (.some (42, false)), (.plain (.binI .neq (.t 48) (.c (.int .u8 93))))⟩ :: ⟨(.some 50), .none, (.plain (.pick (.t 42) (.c (.bool true)) (.t 49)))⟩ :: []
def O22_22_1 : List AOp := ⟨(.some 40), (.some (33, false)), (.plain (.binI .geq (.t 37) (.t 39)))⟩ :: ⟨(.some 41), .none, (.plain (.pick (.t 33) (.c (.bool true)) (.t 40)))⟩ :: ⟨(.some 42), .none, (.plain (.mv (.t 41)))⟩ :: ⟨(.some 43), (.some (42, false)), (.plain (.mv (.t 0)))⟩ :: ⟨(.some 44), (.some (42, false)), (.plain (.mv (.t 6)))⟩ :: ⟨(.some 45), (.some (42, false)), (.plain (.nilck (.t 44)))⟩ :: ⟨(.some 46), (.some (42, false)), (.plain (.faddr 1 (.t 45)))⟩ :: ⟨(.some 47), (.some (42, false)), (.plain (.load1 (.t 46)))⟩ :: O22_22_2
def O22_22 : List AOp := ⟨(.some 32), .none, (.plain (.mv (.t 9)))⟩ :: ⟨(.some 33), .none, (.plain (.mv (.t 32)))⟩ :: ⟨(.some 34), (.some (33, false)), (.plain (.mv (.t 6)))⟩ :: ⟨(.some 35), (.some (33, false)), (.plain (.nilck (.t 34)))⟩ :: ⟨(.some 36), (.some (33, false)), (.plain (.faddr 1 (.t 35)))⟩ :: ⟨(.some 37), (.some (33, false)), (.plain (.load1 (.t 36)))⟩ :: ⟨(.some 38), (.some (33, false)), (.plain (.mv (.t 0)))⟩ :: ⟨(.some 39), (.some (33, false)), (.plain (.lenS (.t 38)))⟩ :: O22_22_1
def C22_22 : ACode := .ops O22_22
def C22_24 : ACode := .skip
def C22_25 : ACode := .exit 0
def C22_23 : ACode := .cond (.t 50) C22_24 C22_25
def C22_21 : ACode := .seq C22_22 C22_23
def O22_29 : List AOp := [⟨(.some 51), .none, (.plain (.mv (.t 6)))⟩, ⟨(.some 52), .none, (.call 38 [(.t 51)])⟩, ⟨(.some 10), .none, (.plain (.alloc [(.int .u64 0), (.int .u64 0), (.int .u64 0), (.int .u64 0), (.int .u8 0), (.bool false)]))⟩, ⟨.none, .none, (.plain (.store 6 (.t 10) (.t 52)))⟩]
def C22_29 : ACode := .ops O22_29
def O22_32 : List AOp := [⟨(.some 53), .none, (.plain (.mv (.t 6)))⟩, ⟨(.some 54), .none, (.plain (.nilck (.t 53)))⟩, ⟨(.some 55), .none, (.plain (.faddr 2 (.t 54)))⟩, ⟨(.some 56), .none, (.plain (.load1 (.t 55)))⟩, ⟨(.some 57), .none, (.plain (.binI .geq (.t 56) (.c (.int .i64 0))))⟩]
def C22_32 : ACode := .ops O22_32
def C22_34 : ACode := .exit 0
def C22_35 : ACode := .skip
def C22_33 : ACode := .cond (.t 57) C22_34 C22_35
def C22_31 : ACode := .seq C22_32 C22_33
def O22_38_3 : List AOp := ⟨(.some 82), (.some (79, true)), (.plain (.nilck (.t 81)))⟩ :: ⟨(.some 83), (.some (79, true)), (.plain (.faddr 1 (.t 82)))⟩ :: ⟨(.some 84), (.some (79, true)), (.plain (.load1 (.t 83)))⟩ :: ⟨(.some 85), (.some (79, true)), (.plain (.binI .add (.t 84) (.c (.int .i64 1))))⟩ :: ⟨(.some 86), (.some (79, true)), (.plain (.ixS (.t 80) (.t 85)))⟩ :: ⟨(.some 87), (.some (79, true)), (.plain (.binI .neq (.t 86) (.c (.int .u8 93))))⟩ :: ⟨(.some 88), .none, (.plain (.pick (.t 79) (.t 87) (.c (.bool false))))⟩ :: []
def O22_38_2 : List AOp := ⟨(.some 74), (.some (70, true)), (.plain (.faddr 1 (.t 73)))⟩ :: ⟨(.some 75), (.some (70, true)), (.plain (.load1 (.t 74)))⟩ :: ⟨(.some 76), (.some (70, true)), (.plain (.ixS (.t 71) (.t 75)))⟩ :: ⟨(.some 77), (.some (70, true)), (.plain (.binI .eql (.t 76) (.c (.int .u8 45))))⟩ :: ⟨(.some 78), .none, (.plain (.pick (.t 70) (.t 77) (.c (.bool false))))⟩ :: ⟨(.some 79), .none, (.plain (.mv (.t 78)))⟩ :: ⟨(.some 80), (.some (79, true)), (.plain (.mv (.t 0)))⟩ :: ⟨(.some 81), (.some (79, true)), (.plain (.mv (.t 6)))⟩ :: O22_38_3
def O22_38_1 : List AOp := ⟨(.some 66), (.some (60, true)), (.plain (.mv (.t 0)))⟩ :: ⟨(.some 67), (.some (60, true)), (.plain (.lenS (.t 66)))⟩ :: ⟨(.some 68), (.some (60, true)), (.plain (.binI .lss (.t 65) (.t 67)))⟩ :: ⟨(.some 69), .none, (.plain (.pick (.t 60) (.t 68) (.c (.bool false))))⟩ :: ⟨(.some 70), .none, (.plain (.mv (.t 69)))⟩ :: ⟨(.some 71), (.some (70, true)), (.plain (.mv (.t 0)))⟩ :: ⟨(.some 72), (.some (70, true)), (.plain (.mv (.t 6)))⟩ :: ⟨(.some 73), (.some (70, true)), (.plain (.nilck (.t 72)))⟩ :: O22_38_2
def O22_38 : List AOp := ⟨(.some 58), .none, (.plain (.faddr 5 (.t 10)))⟩ :: ⟨(.some 59), .none, (.plain (.load1 (.t 58)))⟩ :: ⟨(.some 60), .none, (.plain (.mv (.t 59)))⟩ :: ⟨(.some 61), (.some (60, true)), (.plain (.mv (.t 6)))⟩ :: ⟨(.some 62), (.some (60, true)), (.plain (.nilck (.t 61)))⟩ :: ⟨(.some 63), (.some (60, true)), (.plain (.faddr 1 (.t 62)))⟩ :: ⟨(.some 64), (.some (60, true)), (.plain (.load1 (.t 63)))⟩ :: ⟨(.some 65), (.some (60, true)), (.plain (.binI .add (.t 64) (.c (.int .i64 1))))⟩ :: O22_38_1
def C22_38 : ACode := .ops O22_38
def O22_41 : List AOp := [⟨(.some 89), .none, (.plain (.mv (.t 6)))⟩, ⟨(.some 90), .none, (.plain (.nilck (.t 89)))⟩, ⟨(.some 91), .none, (.plain (.faddr 1 (.t 90)))⟩, ⟨(.some 92), .none, (.plain (.load1 (.t 91)))⟩, ⟨(.some 93), .none, (.plain (.binI .add (.t 92) (.c (.int .i64 1))))⟩, ⟨(.some 94), .none, (.plain (.nilck (.t 89)))⟩, ⟨(.some 95), .none, (.plain (.faddr 1 (.t 94)))⟩, ⟨.none, .none, (.plain (.store 1 (.t 95) (.t 93)))⟩]
def C22_41 : ACode := .ops O22_41
def O22_43 : List AOp := [⟨(.some 96), .none, (.plain (.mv (.t 6)))⟩, ⟨(.some 97), .none, (.plain (.nilck (.t 96)))⟩, ⟨(.some 98), .none, (.plain (.faddr 1 (.t 97)))⟩, ⟨(.some 99), .none, (.plain (.load1 (.t 98)))⟩, ⟨(.some 11), .none, (.plain (.mv (.t 99)))⟩]
def C22_43 : ACode := .ops O22_43
def O22_45 : List AOp := [⟨(.some 100), .none, (.plain (.mv (.t 6)))⟩, ⟨(.some 101), .none, (.call 38 [(.t 100)])⟩, ⟨(.some 12), .none, (.plain (.alloc [(.int .u64 0), (.int .u64 0), (.int .u64 0), (.int .u64 0), (.int .u8 0), (.bool false)]))⟩, ⟨.none, .none, (.plain (.store 6 (.t 12) (.t 101)))⟩]
def C22_45 : ACode := .ops O22_45
def O22_48_2 : List AOp := ⟨(.some 118), .none, (.plain (.pick (.t 107) (.t 117) (.c (.bool false))))⟩ :: []
def O22_48_1 : List AOp := ⟨(.some 110), (.some (107, true)), (.plain (.un .not (.t 109)))⟩ :: ⟨(.some 111), (.some (107, true)), (.plain (.mv (.t 110)))⟩ :: ⟨(.some 112), (.some (111, false)), (.plain (.faddr 4 (.t 12)))⟩ :: ⟨(.some 113), (.some (111, false)), (.plain (.load1 (.t 112)))⟩ :: ⟨(.some 114), (.some (111, false)), (.plain (.faddr 4 (.t 10)))⟩ :: ⟨(.some 115), (.some (111, false)), (.plain (.load1 (.t 114)))⟩ :: ⟨(.some 116), (.some (111, false)), (.plain (.binI .lss (.t 113) (.t 115)))⟩ :: ⟨(.some 117), (.some (107, true)), (.plain (.pick (.t 111) (.c (.bool true)) (.t 116)))⟩ :: O22_48_2
def O22_48 : List AOp := ⟨(.some 102), .none, (.plain (.mv (.t 6)))⟩ :: ⟨(.some 103), .none, (.plain (.nilck (.t 102)))⟩ :: ⟨(.some 104), .none, (.plain (.faddr 2 (.t 103)))⟩ :: ⟨(.some 105), .none, (.plain (.load1 (.t 104)))⟩ :: ⟨(.some 106), .none, (.plain (.binI .lss (.t 105) (.c (.int .i64 0))))⟩ :: ⟨(.some 107), .none, (.plain (.mv (.t 106)))⟩ :: ⟨(.some 108), (.some (107, true)), (.plain (.faddr 5 (.t 12)))⟩ :: ⟨(.some 109), (.some (107, true)), (.plain (.load1 (.t 108)))⟩ :: O22_48_1
def C22_48 : ACode := .ops O22_48
def O22_50 : List AOp := [⟨(.some 119), .none, (.plain (.mv (.t 6)))⟩, ⟨(.some 120), .none, (.plain (.mv (.t 11)))⟩, ⟨(.some 121), .none, (.call 39 [(.t 119), (.t 120)])⟩]
def C22_50 : ACode := .ops O22_50
def C22_51 : ACode := .skip
def C22_49 : ACode := .cond (.t 118) C22_50 C22_51
def C22_47 : ACode := .seq C22_48 C22_49
def O22_52 : List AOp := [⟨(.some 122), .none, (.plain (.faddr 4 (.t 10)))⟩, ⟨(.some 123), .none, (.plain (.load1 (.t 122)))⟩, ⟨(.some 124), .none, (.plain (.faddr 4 (.t 12)))⟩, ⟨(.some 125), .none, (.plain (.load1 (.t 124)))⟩, ⟨(.some 126), .none, (.call 20 [(.t 123), (.t 125)])⟩, ⟨(.some 127), .none, (.plain (.faddr 0 (.t 10)))⟩, ⟨.none, .none, (.plain (.store 4 (.t 127) (.t 126)))⟩]
def C22_52 : ACode := .ops O22_52
def C22_46 : ACode := .seq C22_47 C22_52
def C22_44 : ACode := .seq C22_45 C22_46
def C22_42 : ACode := .seq C22_43 C22_44
def C22_40 : ACode := .seq C22_41 C22_42
def C22_53 : ACode := .skip
def C22_39 : ACode := .cond (.t 88) C22_40 C22_53
def C22_37 : ACode := .seq C22_38 C22_39
def O22_56 : List AOp := [⟨(.some 128), .none, (.plain (.mv (.t 6)))⟩, ⟨(.some 129), .none, (.plain (.nilck (.t 128)))⟩, ⟨(.some 130), .none, (.plain (.faddr 2 (.t 129)))⟩, ⟨(.some 131), .none, (.plain (.load1 (.t 130)))⟩, ⟨(.some 132), .none, (.plain (.binI .geq (.t 131) (.c (.int .i64 0))))⟩]
def C22_56 : ACode := .ops O22_56
def C22_58 : ACode := .exit 0
def C22_59 : ACode := .skip
def C22_57 : ACode := .cond (.t 132) C22_58 C22_59
def C22_55 : ACode := .seq C22_56 C22_57
def O22_60 : List AOp := [⟨(.some 133), .none, (.plain (.loadN 4 (.t 8)))⟩, ⟨(.some 134), .none, (.plain (.faddr 0 (.t 10)))⟩, ⟨(.some 135), .none, (.plain (.loadN 4 (.t 134)))⟩, ⟨(.some 136), .none, (.call 27 [(.t 133), (.t 135)])⟩, ⟨.none, .none, (.plain (.store 4 (.t 8) (.t 136)))⟩]
def C22_60 : ACode := .ops O22_60
def C22_54 : ACode := .seq C22_55 C22_60
def C22_36 : ACode := .seq C22_37 C22_54
def C22_30 : ACode := .seq C22_31 C22_36
def C22_28 : ACode := .seq C22_29 C22_30
def C22_27 : ACode := .block 1 C22_28
def O22_61 : List AOp := [⟨(.some 9), .none, (.plain (.mv (.c (.bool false))))⟩]
def C22_61 : ACode := .ops O22_61
def C22_26 : ACode := .seq C22_27 C22_61
def C22_20 : ACode := .seq C22_21 C22_26
def C22_19 : ACode := .loop C22_20
def C22_18 : ACode := .block 0 C22_19
def C22_16 : ACode := .seq C22_17 C22_18
def O22_64 : List AOp := [⟨(.some 137), .none, (.plain (.mv (.t 6)))⟩, ⟨(.some 138), .none, (.plain (.nilck (.t 137)))⟩, ⟨(.some 139), .none, (.plain (.faddr 2 (.t 138)))⟩, ⟨(.some 140), .none, (.plain (.load1 (.t 139)))⟩, ⟨(.some 141), .none, (.plain (.binI .geq (.t 140) (.c (.int .i64 0))))⟩]
def C22_64 : ACode := .ops O22_64
def Q22_67_1 : List AOp := ⟨(.some 5), .none, (.plain (.mv (.t 146)))⟩ :: []
def Q22_67 : List AOp := ⟨(.some 142), .none, (.plain (.build [(.int .u64 0), (.int .u64 0), (.int .u64 0), (.int .u64 0)] []))⟩ :: ⟨(.some 143), .none, (.plain (.mv (.t 6)))⟩ :: ⟨(.some 144), .none, (.plain (.nilck (.t 143)))⟩ :: ⟨(.some 145), .none, (.plain (.faddr 2 (.t 144)))⟩ :: ⟨(.some 146), .none, (.plain (.load1 (.t 145)))⟩ :: ⟨.none, .none, (.plain (.store 4 (.t 2) (.t 142)))⟩ :: ⟨(.some 3), .none, (.plain (.mv (.c (.int .i64 0))))⟩ :: ⟨(.some 4), .none, (.plain (.mv (.c (.int .i64 70))))⟩ :: Q22_67_1
def S22_67 : List AOp := []
def C22_67 : ACode := .draw [(.t 2)] 0 0 Q22_67 S22_67
def C22_68 : ACode := .ret
def C22_66 : ACode := .seq C22_67 C22_68
def C22_69 : ACode := .skip
def C22_65 : ACode := .cond (.t 141) C22_66 C22_69
def C22_63 : ACode := .seq C22_64 C22_65
def O22_72 : List AOp := [⟨(.some 147), .none, (.plain (.mv (.t 7)))⟩]
def C22_72 : ACode := .ops O22_72
def O22_74 : List AOp := [⟨(.some 148), .none, (.plain (.loadN 4 (.t 8)))⟩, ⟨(.some 149), .none, (.call 29 [(.t 148)])⟩, ⟨.none, .none, (.plain (.store 4 (.t 8) (.t 149)))⟩]
def C22_74 : ACode := .ops O22_74
def C22_75 : ACode := .skip
def C22_73 : ACode := .cond (.t 147) C22_74 C22_75
def C22_71 : ACode := .seq C22_72 C22_73
def Q22_77_1 : List AOp := ⟨(.some 4), .none, (.plain (.mv (.c (.int .i64 0))))⟩ :: ⟨(.some 5), .none, (.plain (.mv (.c (.int .i64 0))))⟩ :: []
def Q22_77 : List AOp := ⟨(.some 150), .none, (.plain (.loadN 4 (.t 8)))⟩ :: ⟨(.some 151), .none, (.plain (.mv (.t 6)))⟩ :: ⟨(.some 152), .none, (.plain (.nilck (.t 151)))⟩ :: ⟨(.some 153), .none, (.plain (.faddr 1 (.t 152)))⟩ :: ⟨(.some 154), .none, (.plain (.load1 (.t 153)))⟩ :: ⟨(.some 155), .none, (.plain (.binI .add (.t 154) (.c (.int .i64 1))))⟩ :: ⟨.none, .none, (.plain (.store 4 (.t 2) (.t 150)))⟩ :: ⟨(.some 3), .none, (.plain (.mv (.t 155)))⟩ :: Q22_77_1
def S22_77 : List AOp := []
def C22_77 : ACode := .draw [(.t 2)] 0 0 Q22_77 S22_77
def C22_78 : ACode := .ret
def C22_76 : ACode := .seq C22_77 C22_78
def C22_70 : ACode := .seq C22_71 C22_76
def C22_62 : ACode := .seq C22_63 C22_70
def C22_15 : ACode := .seq C22_16 C22_62
def C22_13 : ACode := .seq C22_14 C22_15
def C22_7 : ACode := .seq C22_8 C22_13
def C22_5 : ACode := .seq C22_6 C22_7
def C22_3 : ACode := .seq C22_4 C22_5
def C22_1 : ACode := .seq C22_2 C22_3
def R22 : List RA := [(.cellN 2 4), (.tmp 3), (.tmp 4), (.tmp 5)]
theorem k22 : compF Try.prog (muL []) 22 = some ⟨156, C22_1, R22⟩ := by kernel_rfl
noncomputable def X22 (r : Arr 4 Int × Int × Int × Int) : Cx := ⟨Try.prog, noG, 156, muL [], R22, isD (fun x => x = AV.tup [AV.agg (c24 r.1), AV.int .i64 r.2.1, AV.int .i64 r.2.2.1, AV.int .i64 r.2.2.2])⟩
inductive St22 where
  | p1 (s : Str) (not_ : Bool) (t2 : Arr 4 Int) (r_ : T52)
  | p2 (s : Str) (not_ : Bool) (t2 : Arr 4 Int) (r_ : T52)
  | p3 (s : Str) (not_ : Bool) (first : Bool) (t2 : Arr 4 Int) (r_ : T52) (set : Arr 4 Int)
  | p4 (s : Str) (not_ : Bool) (t2 : Arr 4 Int) (r_ : T52) (set : Arr 4 Int)
  | p5 (not_ : Bool) (t2 : Arr 4 Int) (r_ : T52) (set : Arr 4 Int)
  | p6 (s : Str) (not_ : Bool) (at_ : Int) (t2 : Arr 4 Int) (r_ : T52) (set : Arr 4 Int) (x_ : T54) (y : T54)
  | p7 (s : Str) (not_ : Bool) (t2 : Arr 4 Int) (r_ : T52) (set : Arr 4 Int) (x_ : T54) (y : T54)
  | p8 (s : Str) (not_ : Bool) (t2 : Arr 4 Int) (r_ : T52) (set : Arr 4 Int) (x_ : T54)
  | p9 (t2 : Arr 4 Int) (r_ : T52) (set : Arr 4 Int)
noncomputable def G22 : St22 → Option (Arr 4 Int × Int × Int × Int)
  | .p1 s not_ t2 r_ =>
    (if not_ = true then
      (G22 (.p2 s not_ t2 ({ r_ with i := IntKind.wrap .i64 (r_.i + 1) } : T52)))
    else
      (G22 (.p2 s not_ t2 r_)))
  | .p2 s not_ t2 r_ =>
    (G22 (.p3 s not_ true t2 r_ (Arr.rep 4 0)))
  | .p3 s not_ first t2 r_ set =>
    (if first = true then
      (G22 (.p4 s not_ t2 r_ set))
    else
      (if (decide (r_.i ≥ ((s).length : Int))) = true then
        (G22 (.p4 s not_ t2 r_ set))
      else
        (ix s r_.i >>= fun b35 =>
          (if ((b35.toNat : Int) != 93) = true then
            (G22 (.p4 s not_ t2 r_ set))
          else
            (G22 (.p5 not_ t2 r_ set))))))
  | .p4 s not_ t2 r_ set =>
    (F38 r_ >>= fun r38 =>
      (if (decide (r38.2.bad ≥ 0)) = true then
        (G22 (.p5 not_ t2 r38.2 set))
      else
        (if r38.1.one = true then
          (if (decide ((IntKind.wrap .i64 (r38.2.i + 1)) < ((s).length : Int))) = true then
            (ix s r38.2.i >>= fun b66 =>
              (if ((b66.toNat : Int) == 45) = true then
                (ix s (IntKind.wrap .i64 (r38.2.i + 1)) >>= fun b69 =>
                  (if ((b69.toNat : Int) != 93) = true then
                    (F38 ({ r38.2 with i := IntKind.wrap .i64 (r38.2.i + 1) } : T52) >>= fun r78 =>
                      (if (decide (r78.2.bad < 0)) = true then
                        (if (!r78.1.one) = true then
                          (G22 (.p6 s not_ (({ r38.2 with i := IntKind.wrap .i64 (r38.2.i + 1) } : T52).i) t2 r78.2 set r38.1 r78.1))
                        else
                          (if (decide (r78.1.c < r38.1.c)) = true then
                            (G22 (.p6 s not_ (({ r38.2 with i := IntKind.wrap .i64 (r38.2.i + 1) } : T52).i) t2 r78.2 set r38.1 r78.1))
                          else
                            (G22 (.p7 s not_ t2 r78.2 set r38.1 r78.1))))
                      else
                        (G22 (.p7 s not_ t2 r78.2 set r38.1 r78.1))))
                  else
                    (G22 (.p8 s not_ t2 r38.2 set r38.1))))
              else
                (G22 (.p8 s not_ t2 r38.2 set r38.1))))
          else
            (G22 (.p8 s not_ t2 r38.2 set r38.1)))
        else
          (G22 (.p8 s not_ t2 r38.2 set r38.1)))))
  | .p5 not_ t2 r_ set =>
    (if (decide (r_.bad ≥ 0)) = true then
      (some ((Arr.rep 4 0), 0, 70, r_.bad))
    else
      (if not_ = true then
        (F29 set >>= fun r125 =>
          (G22 (.p9 t2 r_ r125)))
      else
        (G22 (.p9 t2 r_ set))))
  | .p6 s not_ at_ t2 r_ set x_ y =>
    (F39 r_ at_ >>= fun r132 =>
      (G22 (.p7 s not_ t2 r132.2 set x_ y)))
  | .p7 s not_ t2 r_ set x_ y =>
    (F20 x_.c y.c >>= fun r141 =>
      (G22 (.p8 s not_ t2 r_ set ({ x_ with set := r141 } : T54))))
  | .p8 s not_ t2 r_ set x_ =>
    (if (decide (r_.bad ≥ 0)) = true then
      (G22 (.p5 not_ t2 r_ set))
    else
      (F27 set x_.set >>= fun r150 =>
        (G22 (.p3 s not_ false t2 r_ r150))))
  | .p9 t2 r_ set =>
    (some (set, IntKind.wrap .i64 (r_.i + 1), 0, 0))
  partial_fixpoint
def M22 (x : St22) (r : Arr 4 Int × Int × Int × Int) : Prop := match x with
  | .p1 s not_ t2 r_ => ∀ (tm : Fr) (st : Store) (i0 : Nat) (i1 : Nat), tm 0 = AV.str s → tm 2 = .ptr i0 0 → tm 6 = .ptr i1 0 → tm 7 = AV.bool not_ → st[i0]? = some (.cells (c24 t2)) → st[i1]? = some (.cells (c52 r_)) → i0 ≠ i1 → At (X22 r) C22_7 [] tm st
  | .p2 s not_ t2 r_ => ∀ (tm : Fr) (st : Store) (i0 : Nat) (i1 : Nat), tm 0 = AV.str s → tm 2 = .ptr i0 0 → tm 6 = .ptr i1 0 → tm 7 = AV.bool not_ → st[i0]? = some (.cells (c24 t2)) → st[i1]? = some (.cells (c52 r_)) → i0 ≠ i1 → At (X22 r) C22_13 [] tm st
  | .p3 s not_ first t2 r_ set => ∀ (tm : Fr) (st : Store) (i0 : Nat) (i1 : Nat) (i2 : Nat), tm 0 = AV.str s → tm 2 = .ptr i0 0 → tm 6 = .ptr i1 0 → tm 7 = AV.bool not_ → tm 8 = .ptr i2 0 → tm 9 = AV.bool first → st[i0]? = some (.cells (c24 t2)) → st[i1]? = some (.cells (c52 r_)) → st[i2]? = some (.cells (c24 set)) → i0 ≠ i1 → i0 ≠ i2 → i1 ≠ i2 → AtL (X22 r) C22_20 [.blk 0, .seq C22_62] tm st
  | .p4 s not_ t2 r_ set => ∀ (tm : Fr) (st : Store) (i0 : Nat) (i1 : Nat) (i2 : Nat), tm 0 = AV.str s → tm 2 = .ptr i0 0 → tm 6 = .ptr i1 0 → tm 7 = AV.bool not_ → tm 8 = .ptr i2 0 → st[i0]? = some (.cells (c24 t2)) → st[i1]? = some (.cells (c52 r_)) → st[i2]? = some (.cells (c24 set)) → i0 ≠ i1 → i0 ≠ i2 → i1 ≠ i2 → At (X22 r) C22_26 [.lp C22_20, .blk 0, .seq C22_62] tm st
  | .p5 not_ t2 r_ set => ∀ (tm : Fr) (st : Store) (i0 : Nat) (i1 : Nat) (i2 : Nat), tm 2 = .ptr i0 0 → tm 6 = .ptr i1 0 → tm 7 = AV.bool not_ → tm 8 = .ptr i2 0 → st[i0]? = some (.cells (c24 t2)) → st[i1]? = some (.cells (c52 r_)) → st[i2]? = some (.cells (c24 set)) → i0 ≠ i1 → i0 ≠ i2 → i1 ≠ i2 → At (X22 r) C22_62 [] tm st
  | .p6 s not_ at_ t2 r_ set x_ y => ∀ (tm : Fr) (st : Store) (i0 : Nat) (i1 : Nat) (i2 : Nat) (i3 : Nat) (i4 : Nat), tm 0 = AV.str s → tm 2 = .ptr i0 0 → tm 6 = .ptr i1 0 → tm 7 = AV.bool not_ → tm 8 = .ptr i2 0 → tm 10 = .ptr i3 0 → tm 11 = AV.int .i64 at_ → tm 12 = .ptr i4 0 → st[i0]? = some (.cells (c24 t2)) → st[i1]? = some (.cells (c52 r_)) → st[i2]? = some (.cells (c24 set)) → st[i3]? = some (.cells (c54 x_)) → st[i4]? = some (.cells (c54 y)) → i0 ≠ i1 → i0 ≠ i2 → i1 ≠ i2 → i0 ≠ i3 → i1 ≠ i3 → i2 ≠ i3 → i0 ≠ i4 → i1 ≠ i4 → i2 ≠ i4 → i3 ≠ i4 → At (X22 r) C22_50 [.seq C22_52, .seq C22_54, .blk 1, .seq C22_61, .lp C22_20, .blk 0, .seq C22_62] tm st
  | .p7 s not_ t2 r_ set x_ y => ∀ (tm : Fr) (st : Store) (i0 : Nat) (i1 : Nat) (i2 : Nat) (i3 : Nat) (i4 : Nat), tm 0 = AV.str s → tm 2 = .ptr i0 0 → tm 6 = .ptr i1 0 → tm 7 = AV.bool not_ → tm 8 = .ptr i2 0 → tm 10 = .ptr i3 0 → tm 12 = .ptr i4 0 → st[i0]? = some (.cells (c24 t2)) → st[i1]? = some (.cells (c52 r_)) → st[i2]? = some (.cells (c24 set)) → st[i3]? = some (.cells (c54 x_)) → st[i4]? = some (.cells (c54 y)) → i0 ≠ i1 → i0 ≠ i2 → i1 ≠ i2 → i0 ≠ i3 → i1 ≠ i3 → i2 ≠ i3 → i0 ≠ i4 → i1 ≠ i4 → i2 ≠ i4 → i3 ≠ i4 → At (X22 r) C22_52 [.seq C22_54, .blk 1, .seq C22_61, .lp C22_20, .blk 0, .seq C22_62] tm st
  | .p8 s not_ t2 r_ set x_ => ∀ (tm : Fr) (st : Store) (i0 : Nat) (i1 : Nat) (i2 : Nat) (i3 : Nat), tm 0 = AV.str s → tm 2 = .ptr i0 0 → tm 6 = .ptr i1 0 → tm 7 = AV.bool not_ → tm 8 = .ptr i2 0 → tm 10 = .ptr i3 0 → st[i0]? = some (.cells (c24 t2)) → st[i1]? = some (.cells (c52 r_)) → st[i2]? = some (.cells (c24 set)) → st[i3]? = some (.cells (c54 x_)) → i0 ≠ i1 → i0 ≠ i2 → i1 ≠ i2 → i0 ≠ i3 → i1 ≠ i3 → i2 ≠ i3 → At (X22 r) C22_54 [.blk 1, .seq C22_61, .lp C22_20, .blk 0, .seq C22_62] tm st
  | .p9 t2 r_ set => ∀ (tm : Fr) (st : Store) (i0 : Nat) (i1 : Nat) (i2 : Nat), tm 2 = .ptr i0 0 → tm 6 = .ptr i1 0 → tm 8 = .ptr i2 0 → st[i0]? = some (.cells (c24 t2)) → st[i1]? = some (.cells (c52 r_)) → st[i2]? = some (.cells (c24 set)) → i0 ≠ i1 → i0 ≠ i2 → i1 ≠ i2 → At (X22 r) C22_76 [] tm st
theorem w22 : ∀ (x : St22) (r : Arr 4 Int × Int × Int × Int), G22 x = some r → M22 x r := by
  refine G22.partial_correctness M22 ?_
  intro g ih x r hF
  cases x with
  | p1 s not_ t2 r_ =>
    dsimp only at hF
    intro tm st i0 i1 h0 h2 h6 h7 o0 o1 n0_1
    refine at_seq (a := C22_8) (b := C22_13) ?_
    refine at_seq (a := C22_9) (b := C22_10) ?_
    refine at_ops (l := O22_9) ?_
    refine xo (e_mv' (v := AV.bool not_) h7) ?_
    refine ato_nil ?_
    refine atn_seq ?_
    refine at_cond (x := C22_11) (y := C22_12) rfl (fun c18 => ?_) (fun c18 => ?_)
    · have hF := ite_t c18 hF
      refine at_ops (l := O22_11) ?_
      refine xo (e_mv' (v := AV.ptr i1 0) h6) ?_
      refine xo (e_nilck rfl o1) ?_
      refine xo (e_faddr rfl o1) ?_
      refine xo (e_load1 rfl o1 (LR.comp (LR.whole _ _) (lr52_i r_ r_.i))) ?_
      refine xo (e_bin (v := .int .i64 (IntKind.wrap .i64 (r_.i + 1))) rfl rfl rfl) ?_
      refine xo (e_nilck rfl o1) ?_
      refine xo (e_faddr rfl o1) ?_
      refine xo_store rfl o1 (LR.comp (LR.whole _ _) (lr52_i r_ (IntKind.wrap .i64 (r_.i + 1)))) ((cI_len .i64) _) rfl rfl ((cI_len .i64) _) ((cI_one .i64) _) fun s19 o20 k21 => ?_
      have o22 := k21 _ _ o0 n0_1
      refine ato_nil ?_
      refine atn_seq ?_
      exact ih (.p2 s not_ t2 ({ r_ with i := IntKind.wrap .i64 (r_.i + 1) } : T52)) _ hF _ _ _ _ h0 h2 h6 h7 o22 o20 n0_1
    · have hF := ite_f c18 hF
      refine at_skip ?_
      refine atn_seq ?_
      exact ih (.p2 s not_ t2 r_) _ hF _ _ _ _ h0 h2 h6 h7 o0 o1 n0_1
  | p2 s not_ t2 r_ =>
    dsimp only at hF
    intro tm st i0 i1 h0 h2 h6 h7 o0 o1 n0_1
    refine at_seq (a := C22_14) (b := C22_15) ?_
    refine at_ops (l := O22_14) ?_
    refine xo_alloc (cs := c24 (Arr.rep 4 0)) rfl fun s24 i25 o26 k27 q28 => ?_
    have n29 : i0 ≠ i25 := fun e => ne_new o0 (e.trans q28)
    have n30 : i1 ≠ i25 := fun e => ne_new o1 (e.trans q28)
    have o31 := keep0 k27 o0
    have o32 := keep0 k27 o1
    refine ato_nil ?_
    refine atn_seq ?_
    refine at_seq (a := C22_16) (b := C22_62) ?_
    refine at_seq (a := C22_17) (b := C22_18) ?_
    refine at_ops (l := O22_17) ?_
    refine xo (e_mv' (v := AV.bool true) rfl) ?_
    refine ato_nil ?_
    refine atn_seq ?_
    refine at_block (x := C22_19) ?_
    refine at_loop (b := C22_20) ?_
    exact ih (.p3 s not_ true t2 r_ (Arr.rep 4 0)) _ hF _ _ _ _ _ h0 h2 h6 h7 rfl rfl o31 o32 o26 n0_1 n29 n30
  | p3 s not_ first t2 r_ set =>
    dsimp only at hF
    intro tm st i0 i1 i2 h0 h2 h6 h7 h8 h9 o0 o1 o2 n0_1 n0_2 n1_2
    refine atl_once ?_
    refine at_seq (a := C22_21) (b := C22_26) ?_
    refine at_seq (a := C22_22) (b := C22_23) ?_
    refine at_ops (l := O22_22) ?_
    refine xo (e_mv' (v := AV.bool first) h9) ?_
    refine xo (e_mv' (v := AV.bool first) rfl) ?_
    refine bsplit (b := first) (fun c33 => ?_) (fun c33 => ?_)
    · have hF := ite_t c33 hF
      refine xo_off rfl c33 ?_
      refine xo_off rfl c33 ?_
      refine xo_off rfl c33 ?_
      refine xo_off rfl c33 ?_
      refine xo_off rfl c33 ?_
      refine xo_off rfl c33 ?_
      refine xo_off rfl c33 ?_
      refine xo (e_pick_t (v := AV.bool true) rfl c33 rfl) ?_
      refine xo (e_mv' (v := AV.bool true) rfl) ?_
      refine xo_off rfl rfl ?_
      refine xo_off rfl rfl ?_
      refine xo_off rfl rfl ?_
      refine xo_off rfl rfl ?_
      refine xo_off rfl rfl ?_
      refine xo_off rfl rfl ?_
      refine xo_off rfl rfl ?_
      refine xo (e_pick_t (v := AV.bool true) rfl rfl rfl) ?_
      refine ato_nil ?_
      refine atn_seq ?_
      refine at_cond_t (x := C22_24) (y := C22_25) rfl rfl ?_
      refine at_skip ?_
      refine atn_seq ?_
      exact ih (.p4 s not_ t2 r_ set) _ hF _ _ _ _ _ h0 h2 h6 h7 h8 o0 o1 o2 n0_1 n0_2 n1_2
    · have hF := ite_f c33 hF
      refine xo_on rfl c33 ?_
      refine xo (e_mv' (v := AV.ptr i1 0) h6) ?_
      refine xo_on rfl c33 ?_
      refine xo (e_nilck rfl o1) ?_
      refine xo_on rfl c33 ?_
      refine xo (e_faddr rfl o1) ?_
      refine xo_on rfl c33 ?_
      refine xo (e_load1 rfl o1 (LR.comp (LR.whole _ _) (lr52_i r_ r_.i))) ?_
      refine xo_on rfl c33 ?_
      refine xo (e_mv' (v := AV.str s) h0) ?_
      refine xo_on rfl c33 ?_
      refine xo (e_lenS rfl) ?_
      refine xo_on rfl c33 ?_
      refine xo (e_bin (v := .bool (decide (r_.i ≥ ((s).length : Int)))) rfl rfl rfl) ?_
      refine xo (e_pick_f (v := AV.bool (decide (r_.i ≥ ((s).length : Int)))) rfl c33 rfl) ?_
      refine xo (e_mv' (v := AV.bool (decide (r_.i ≥ ((s).length : Int)))) rfl) ?_
      refine bsplit (b := decide (r_.i ≥ ((s).length : Int))) (fun c34 => ?_) (fun c34 => ?_)
      · have hF := ite_t c34 hF
        refine xo_off rfl c34 ?_
        refine xo_off rfl c34 ?_
        refine xo_off rfl c34 ?_
        refine xo_off rfl c34 ?_
        refine xo_off rfl c34 ?_
        refine xo_off rfl c34 ?_
        refine xo_off rfl c34 ?_
        refine xo (e_pick_t (v := AV.bool true) rfl c34 rfl) ?_
        refine ato_nil ?_
        refine atn_seq ?_
        refine at_cond_t (x := C22_24) (y := C22_25) rfl rfl ?_
        refine at_skip ?_
        refine atn_seq ?_
        exact ih (.p4 s not_ t2 r_ set) _ hF _ _ _ _ _ h0 h2 h6 h7 h8 o0 o1 o2 n0_1 n0_2 n1_2
      · have hF := ite_f c34 hF
        refine xo_on rfl c34 ?_
        refine xo (e_mv' (v := AV.str s) h0) ?_
        refine xo_on rfl c34 ?_
        refine xo (e_mv' (v := AV.ptr i1 0) h6) ?_
        refine xo_on rfl c34 ?_
        refine xo (e_nilck rfl o1) ?_
        refine xo_on rfl c34 ?_
        refine xo (e_faddr rfl o1) ?_
        refine xo_on rfl c34 ?_
        refine xo (e_load1 rfl o1 (LR.comp (LR.whole _ _) (lr52_i r_ r_.i))) ?_
        obtain ⟨b35, g36, hF⟩ := bind_some hF
        refine xo_on rfl c34 ?_
        refine xo (e_ixS rfl rfl g36) ?_
        refine xo_on rfl c34 ?_
        refine xo (e_bin (v := .bool (((b35.toNat : Int) != 93))) rfl rfl rfl) ?_
        refine xo (e_pick_f (v := AV.bool ((b35.toNat : Int) != 93)) rfl c34 rfl) ?_
        refine ato_nil ?_
        refine atn_seq ?_
        refine at_cond (x := C22_24) (y := C22_25) rfl (fun c37 => ?_) (fun c37 => ?_)
        · have hF := ite_t c37 hF
          refine at_skip ?_
          refine atn_seq ?_
          exact ih (.p4 s not_ t2 r_ set) _ hF _ _ _ _ _ h0 h2 h6 h7 h8 o0 o1 o2 n0_1 n0_2 n1_2
        · have hF := ite_f c37 hF
          refine at_exit ?_
          refine atx (k' := [.seq C22_62]) rfl ?_
          refine atn_seq ?_
          exact ih (.p5 not_ t2 r_ set) _ hF _ _ _ _ _ h2 h6 h7 h8 o0 o1 o2 n0_1 n0_2 n1_2
  | p4 s not_ t2 r_ set =>
    dsimp only at hF
    intro tm st i0 i1 i2 h0 h2 h6 h7 h8 o0 o1 o2 n0_1 n0_2 n1_2
    refine at_seq (a := C22_27) (b := C22_61) ?_
    refine at_block (x := C22_28) ?_
    refine at_seq (a := C22_29) (b := C22_30) ?_
    refine at_ops (l := O22_29) ?_
    refine xo (e_mv' (v := AV.ptr i1 0) h6) ?_
    obtain ⟨r38, g39, hF⟩ := bind_some hF
    refine xo_callO (al_cons (ar_eq rfl) al_nil) (d38 r_ _ g39 _ _ _ o1 fun s40 k41 o42 => ?_)
    have o43 := k41 _ _ o0 n0_1
    have o44 := k41 _ _ o2 (Ne.symm n1_2)
    refine xo_alloc (cs := c54 ({ set := (Arr.rep 4 0), c := 0, one := false } : T54)) rfl fun s46 i47 o48 k49 q50 => ?_
    have n51 : i0 ≠ i47 := fun e => ne_new o43 (e.trans q50)
    have n52 : i1 ≠ i47 := fun e => ne_new o42 (e.trans q50)
    have n53 : i2 ≠ i47 := fun e => ne_new o44 (e.trans q50)
    have o54 := keep0 k49 o43
    have o55 := keep0 k49 o42
    have o56 := keep0 k49 o44
    refine xo_store rfl o48 (LR.whole _ _) (c54_len _) rfl rfl (c54_len _) (c54_one _) fun s57 o58 k59 => ?_
    have o60 := k59 _ _ o54 n51
    have o61 := k59 _ _ o55 n52
    have o62 := k59 _ _ o56 n53
    refine ato_nil ?_
    refine atn_seq ?_
    refine at_seq (a := C22_31) (b := C22_36) ?_
    refine at_seq (a := C22_32) (b := C22_33) ?_
    refine at_ops (l := O22_32) ?_
    refine xo (e_mv' (v := AV.ptr i1 0) h6) ?_
    refine xo (e_nilck rfl o61) ?_
    refine xo (e_faddr rfl o61) ?_
    refine xo (e_load1 rfl o61 (LR.comp (LR.whole _ _) (lr52_bad r38.2 r38.2.bad))) ?_
    refine xo (e_bin (v := .bool (decide (r38.2.bad ≥ 0))) rfl rfl rfl) ?_
    refine ato_nil ?_
    refine atn_seq ?_
    refine at_cond (x := C22_34) (y := C22_35) rfl (fun c63 => ?_) (fun c63 => ?_)
    · have hF := ite_t c63 hF
      refine at_exit ?_
      refine atx (k' := [.seq C22_62]) rfl ?_
      refine atn_seq ?_
      exact ih (.p5 not_ t2 r38.2 set) _ hF _ _ _ _ _ h2 h6 h7 h8 o60 o61 o62 n0_1 n0_2 n1_2
    · have hF := ite_f c63 hF
      refine at_skip ?_
      refine atn_seq ?_
      refine at_seq (a := C22_37) (b := C22_54) ?_
      refine at_seq (a := C22_38) (b := C22_39) ?_
      refine at_ops (l := O22_38) ?_
      refine xo (e_faddr rfl o58) ?_
      refine xo (e_load1 rfl o58 (LR.comp (LR.whole _ _) (lr54_one r38.1 r38.1.one))) ?_
      refine xo (e_mv' (v := AV.bool r38.1.one) rfl) ?_
      refine bsplit (b := r38.1.one) (fun c64 => ?_) (fun c64 => ?_)
      · have hF := ite_t c64 hF
        refine xo_on rfl c64 ?_
        refine xo (e_mv' (v := AV.ptr i1 0) h6) ?_
        refine xo_on rfl c64 ?_
        refine xo (e_nilck rfl o61) ?_
        refine xo_on rfl c64 ?_
        refine xo (e_faddr rfl o61) ?_
        refine xo_on rfl c64 ?_
        refine xo (e_load1 rfl o61 (LR.comp (LR.whole _ _) (lr52_i r38.2 r38.2.i))) ?_
        refine xo_on rfl c64 ?_
        refine xo (e_bin (v := .int .i64 (IntKind.wrap .i64 (r38.2.i + 1))) rfl rfl rfl) ?_
        refine xo_on rfl c64 ?_
        refine xo (e_mv' (v := AV.str s) h0) ?_
        refine xo_on rfl c64 ?_
        refine xo (e_lenS rfl) ?_
        refine xo_on rfl c64 ?_
        refine xo (e_bin (v := .bool (decide ((IntKind.wrap .i64 (r38.2.i + 1)) < ((s).length : Int)))) rfl rfl rfl) ?_
        refine xo (e_pick_t (v := AV.bool (decide ((IntKind.wrap .i64 (r38.2.i + 1)) < ((s).length : Int)))) rfl c64 rfl) ?_
        refine xo (e_mv' (v := AV.bool (decide ((IntKind.wrap .i64 (r38.2.i + 1)) < ((s).length : Int)))) rfl) ?_
        refine bsplit (b := decide ((IntKind.wrap .i64 (r38.2.i + 1)) < ((s).length : Int))) (fun c65 => ?_) (fun c65 => ?_)
        · have hF := ite_t c65 hF
          refine xo_on rfl c65 ?_
          refine xo (e_mv' (v := AV.str s) h0) ?_
          refine xo_on rfl c65 ?_
          refine xo (e_mv' (v := AV.ptr i1 0) h6) ?_
          refine xo_on rfl c65 ?_
          refine xo (e_nilck rfl o61) ?_
          refine xo_on rfl c65 ?_
          refine xo (e_faddr rfl o61) ?_
          refine xo_on rfl c65 ?_
          refine xo (e_load1 rfl o61 (LR.comp (LR.whole _ _) (lr52_i r38.2 r38.2.i))) ?_
          obtain ⟨b66, g67, hF⟩ := bind_some hF
          refine xo_on rfl c65 ?_
          refine xo (e_ixS rfl rfl g67) ?_
          refine xo_on rfl c65 ?_
          refine xo (e_bin (v := .bool (((b66.toNat : Int) == 45))) rfl rfl rfl) ?_
          refine xo (e_pick_t (v := AV.bool ((b66.toNat : Int) == 45)) rfl c65 rfl) ?_
          refine xo (e_mv' (v := AV.bool ((b66.toNat : Int) == 45)) rfl) ?_
          refine bsplit (b := ((b66.toNat : Int) == 45)) (fun c68 => ?_) (fun c68 => ?_)
          · have hF := ite_t c68 hF
            refine xo_on rfl c68 ?_
            refine xo (e_mv' (v := AV.str s) h0) ?_
            refine xo_on rfl c68 ?_
            refine xo (e_mv' (v := AV.ptr i1 0) h6) ?_
            refine xo_on rfl c68 ?_
            refine xo (e_nilck rfl o61) ?_
            refine xo_on rfl c68 ?_
            refine xo (e_faddr rfl o61) ?_
            refine xo_on rfl c68 ?_
            refine xo (e_load1 rfl o61 (LR.comp (LR.whole _ _) (lr52_i r38.2 r38.2.i))) ?_
            refine xo_on rfl c68 ?_
            refine xo (e_bin (v := .int .i64 (IntKind.wrap .i64 (r38.2.i + 1))) rfl rfl rfl) ?_
            obtain ⟨b69, g70, hF⟩ := bind_some hF
            refine xo_on rfl c68 ?_
            refine xo (e_ixS rfl rfl g70) ?_
            refine xo_on rfl c68 ?_
            refine xo (e_bin (v := .bool (((b69.toNat : Int) != 93))) rfl rfl rfl) ?_
            refine xo (e_pick_t (v := AV.bool ((b69.toNat : Int) != 93)) rfl c68 rfl) ?_
            refine ato_nil ?_
            refine atn_seq ?_
            refine at_cond (x := C22_40) (y := C22_53) rfl (fun c71 => ?_) (fun c71 => ?_)
            · have hF := ite_t c71 hF
              refine at_seq (a := C22_41) (b := C22_42) ?_
              refine at_ops (l := O22_41) ?_
              refine xo (e_mv' (v := AV.ptr i1 0) h6) ?_
              refine xo (e_nilck rfl o61) ?_
              refine xo (e_faddr rfl o61) ?_
              refine xo (e_load1 rfl o61 (LR.comp (LR.whole _ _) (lr52_i r38.2 r38.2.i))) ?_
              refine xo (e_bin (v := .int .i64 (IntKind.wrap .i64 (r38.2.i + 1))) rfl rfl rfl) ?_
              refine xo (e_nilck rfl o61) ?_
              refine xo (e_faddr rfl o61) ?_
              refine xo_store rfl o61 (LR.comp (LR.whole _ _) (lr52_i r38.2 (IntKind.wrap .i64 (r38.2.i + 1)))) ((cI_len .i64) _) rfl rfl ((cI_len .i64) _) ((cI_one .i64) _) fun s72 o73 k74 => ?_
              have o75 := k74 _ _ o60 n0_1
              have o76 := k74 _ _ o62 (Ne.symm n1_2)
              have o77 := k74 _ _ o58 (Ne.symm n52)
              refine ato_nil ?_
              refine atn_seq ?_
              refine at_seq (a := C22_43) (b := C22_44) ?_
              refine at_ops (l := O22_43) ?_
              refine xo (e_mv' (v := AV.ptr i1 0) h6) ?_
              refine xo (e_nilck rfl o73) ?_
              refine xo (e_faddr rfl o73) ?_
              refine xo (e_load1 rfl o73 (LR.comp (LR.whole _ _) (lr52_i ({ r38.2 with i := IntKind.wrap .i64 (r38.2.i + 1) } : T52) (({ r38.2 with i := IntKind.wrap .i64 (r38.2.i + 1) } : T52).i)))) ?_
              refine xo (e_mv' (v := AV.int .i64 (({ r38.2 with i := IntKind.wrap .i64 (r38.2.i + 1) } : T52).i)) rfl) ?_
              refine ato_nil ?_
              refine atn_seq ?_
              refine at_seq (a := C22_45) (b := C22_46) ?_
              refine at_ops (l := O22_45) ?_
              refine xo (e_mv' (v := AV.ptr i1 0) h6) ?_
              obtain ⟨r78, g79, hF⟩ := bind_some hF
              refine xo_callO (al_cons (ar_eq rfl) al_nil) (d38 ({ r38.2 with i := IntKind.wrap .i64 (r38.2.i + 1) } : T52) _ g79 _ _ _ o73 fun s80 k81 o82 => ?_)
              have o83 := k81 _ _ o75 n0_1
              have o84 := k81 _ _ o76 (Ne.symm n1_2)
              have o85 := k81 _ _ o77 (Ne.symm n52)
              refine xo_alloc (cs := c54 ({ set := (Arr.rep 4 0), c := 0, one := false } : T54)) rfl fun s87 i88 o89 k90 q91 => ?_
              have n92 : i0 ≠ i88 := fun e => ne_new o83 (e.trans q91)
              have n93 : i1 ≠ i88 := fun e => ne_new o82 (e.trans q91)
              have n94 : i2 ≠ i88 := fun e => ne_new o84 (e.trans q91)
              have n95 : i47 ≠ i88 := fun e => ne_new o85 (e.trans q91)
              have o96 := keep0 k90 o83
              have o97 := keep0 k90 o82
              have o98 := keep0 k90 o84
              have o99 := keep0 k90 o85
              refine xo_store rfl o89 (LR.whole _ _) (c54_len _) rfl rfl (c54_len _) (c54_one _) fun s100 o101 k102 => ?_
              have o103 := k102 _ _ o96 n92
              have o104 := k102 _ _ o97 n93
              have o105 := k102 _ _ o98 n94
              have o106 := k102 _ _ o99 n95
              refine ato_nil ?_
              refine atn_seq ?_
              refine at_seq (a := C22_47) (b := C22_52) ?_
              refine at_seq (a := C22_48) (b := C22_49) ?_
              refine at_ops (l := O22_48) ?_
              refine xo (e_mv' (v := AV.ptr i1 0) h6) ?_
              refine xo (e_nilck rfl o104) ?_
              refine xo (e_faddr rfl o104) ?_
              refine xo (e_load1 rfl o104 (LR.comp (LR.whole _ _) (lr52_bad r78.2 r78.2.bad))) ?_
              refine xo (e_bin (v := .bool (decide (r78.2.bad < 0))) rfl rfl rfl) ?_
              refine xo (e_mv' (v := AV.bool (decide (r78.2.bad < 0))) rfl) ?_
              refine bsplit (b := decide (r78.2.bad < 0)) (fun c107 => ?_) (fun c107 => ?_)
              · have hF := ite_t c107 hF
                refine xo_on rfl c107 ?_
                refine xo (e_faddr rfl o101) ?_
                refine xo_on rfl c107 ?_
                refine xo (e_load1 rfl o101 (LR.comp (LR.whole _ _) (lr54_one r78.1 r78.1.one))) ?_
                refine xo_on rfl c107 ?_
                refine xo (e_not rfl) ?_
                refine xo_on rfl c107 ?_
                refine xo (e_mv' (v := AV.bool (!r78.1.one)) rfl) ?_
                refine bsplit (b := (!r78.1.one)) (fun c108 => ?_) (fun c108 => ?_)
                · have hF := ite_t c108 hF
                  refine xo_off rfl c108 ?_
                  refine xo_off rfl c108 ?_
                  refine xo_off rfl c108 ?_
                  refine xo_off rfl c108 ?_
                  refine xo_off rfl c108 ?_
                  refine xo_on rfl c107 ?_
                  refine xo (e_pick_t (v := AV.bool true) rfl c108 rfl) ?_
                  refine xo (e_pick_t (v := AV.bool true) rfl c107 rfl) ?_
                  refine ato_nil ?_
                  refine atn_seq ?_
                  refine at_cond_t (x := C22_50) (y := C22_51) rfl rfl ?_
                  exact ih (.p6 s not_ (({ r38.2 with i := IntKind.wrap .i64 (r38.2.i + 1) } : T52).i) t2 r78.2 set r38.1 r78.1) _ hF _ _ _ _ _ _ _ h0 h2 h6 h7 h8 rfl rfl rfl o103 o104 o105 o106 o101 n0_1 n0_2 n1_2 n51 n52 n53 n92 n93 n94 n95
                · have hF := ite_f c108 hF
                  refine xo_on rfl c108 ?_
                  refine xo (e_faddr rfl o101) ?_
                  refine xo_on rfl c108 ?_
                  refine xo (e_load1 rfl o101 (LR.comp (LR.whole _ _) (lr54_c r78.1 r78.1.c))) ?_
                  refine xo_on rfl c108 ?_
                  refine xo (e_faddr rfl o106) ?_
                  refine xo_on rfl c108 ?_
                  refine xo (e_load1 rfl o106 (LR.comp (LR.whole _ _) (lr54_c r38.1 r38.1.c))) ?_
                  refine xo_on rfl c108 ?_
                  refine xo (e_bin (v := .bool (decide (r78.1.c < r38.1.c))) rfl rfl rfl) ?_
                  refine xo_on rfl c107 ?_
                  refine xo (e_pick_f (v := AV.bool (decide (r78.1.c < r38.1.c))) rfl c108 rfl) ?_
                  refine xo (e_pick_t (v := AV.bool (decide (r78.1.c < r38.1.c))) rfl c107 rfl) ?_
                  refine ato_nil ?_
                  refine atn_seq ?_
                  refine at_cond (x := C22_50) (y := C22_51) rfl (fun c109 => ?_) (fun c109 => ?_)
                  · have hF := ite_t c109 hF
                    exact ih (.p6 s not_ (({ r38.2 with i := IntKind.wrap .i64 (r38.2.i + 1) } : T52).i) t2 r78.2 set r38.1 r78.1) _ hF _ _ _ _ _ _ _ h0 h2 h6 h7 h8 rfl rfl rfl o103 o104 o105 o106 o101 n0_1 n0_2 n1_2 n51 n52 n53 n92 n93 n94 n95
                  · have hF := ite_f c109 hF
                    refine at_skip ?_
                    refine atn_seq ?_
                    exact ih (.p7 s not_ t2 r78.2 set r38.1 r78.1) _ hF _ _ _ _ _ _ _ h0 h2 h6 h7 h8 rfl rfl o103 o104 o105 o106 o101 n0_1 n0_2 n1_2 n51 n52 n53 n92 n93 n94 n95
              · have hF := ite_f c107 hF
                refine xo_off rfl c107 ?_
                refine xo_off rfl c107 ?_
                refine xo_off rfl c107 ?_
                refine xo_off rfl c107 ?_
                refine xo_off' rfl ?_
                refine xo_off' rfl ?_
                refine xo_off' rfl ?_
                refine xo_off' rfl ?_
                refine xo_off' rfl ?_
                refine xo_off rfl c107 ?_
                refine xo (e_pick_f (v := AV.bool false) rfl c107 rfl) ?_
                refine ato_nil ?_
                refine atn_seq ?_
                refine at_cond_f (x := C22_50) (y := C22_51) rfl rfl ?_
                refine at_skip ?_
                refine atn_seq ?_
                exact ih (.p7 s not_ t2 r78.2 set r38.1 r78.1) _ hF _ _ _ _ _ _ _ h0 h2 h6 h7 h8 rfl rfl o103 o104 o105 o106 o101 n0_1 n0_2 n1_2 n51 n52 n53 n92 n93 n94 n95
            · have hF := ite_f c71 hF
              refine at_skip ?_
              refine atn_seq ?_
              exact ih (.p8 s not_ t2 r38.2 set r38.1) _ hF _ _ _ _ _ _ h0 h2 h6 h7 h8 rfl o60 o61 o62 o58 n0_1 n0_2 n1_2 n51 n52 n53
          · have hF := ite_f c68 hF
            refine xo_off rfl c68 ?_
            refine xo_off rfl c68 ?_
            refine xo_off rfl c68 ?_
            refine xo_off rfl c68 ?_
            refine xo_off rfl c68 ?_
            refine xo_off rfl c68 ?_
            refine xo_off rfl c68 ?_
            refine xo_off rfl c68 ?_
            refine xo (e_pick_f (v := AV.bool false) rfl c68 rfl) ?_
            refine ato_nil ?_
            refine atn_seq ?_
            refine at_cond_f (x := C22_40) (y := C22_53) rfl rfl ?_
            refine at_skip ?_
            refine atn_seq ?_
            exact ih (.p8 s not_ t2 r38.2 set r38.1) _ hF _ _ _ _ _ _ h0 h2 h6 h7 h8 rfl o60 o61 o62 o58 n0_1 n0_2 n1_2 n51 n52 n53
        · have hF := ite_f c65 hF
          refine xo_off rfl c65 ?_
          refine xo_off rfl c65 ?_
          refine xo_off rfl c65 ?_
          refine xo_off rfl c65 ?_
          refine xo_off rfl c65 ?_
          refine xo_off rfl c65 ?_
          refine xo_off rfl c65 ?_
          refine xo (e_pick_f (v := AV.bool false) rfl c65 rfl) ?_
          refine xo (e_mv' (v := AV.bool false) rfl) ?_
          refine xo_off rfl rfl ?_
          refine xo_off rfl rfl ?_
          refine xo_off rfl rfl ?_
          refine xo_off rfl rfl ?_
          refine xo_off rfl rfl ?_
          refine xo_off rfl rfl ?_
          refine xo_off rfl rfl ?_
          refine xo_off rfl rfl ?_
          refine xo (e_pick_f (v := AV.bool false) rfl rfl rfl) ?_
          refine ato_nil ?_
          refine atn_seq ?_
          refine at_cond_f (x := C22_40) (y := C22_53) rfl rfl ?_
          refine at_skip ?_
          refine atn_seq ?_
          exact ih (.p8 s not_ t2 r38.2 set r38.1) _ hF _ _ _ _ _ _ h0 h2 h6 h7 h8 rfl o60 o61 o62 o58 n0_1 n0_2 n1_2 n51 n52 n53
      · have hF := ite_f c64 hF
        refine xo_off rfl c64 ?_
        refine xo_off rfl c64 ?_
        refine xo_off rfl c64 ?_
        refine xo_off rfl c64 ?_
        refine xo_off rfl c64 ?_
        refine xo_off rfl c64 ?_
        refine xo_off rfl c64 ?_
        refine xo_off rfl c64 ?_
        refine xo (e_pick_f (v := AV.bool false) rfl c64 rfl) ?_
        refine xo (e_mv' (v := AV.bool false) rfl) ?_
        refine xo_off rfl rfl ?_
        refine xo_off rfl rfl ?_
        refine xo_off rfl rfl ?_
        refine xo_off rfl rfl ?_
        refine xo_off rfl rfl ?_
        refine xo_off rfl rfl ?_
        refine xo_off rfl rfl ?_
        refine xo (e_pick_f (v := AV.bool false) rfl rfl rfl) ?_
        refine xo (e_mv' (v := AV.bool false) rfl) ?_
        refine xo_off rfl rfl ?_
        refine xo_off rfl rfl ?_
        refine xo_off rfl rfl ?_
        refine xo_off rfl rfl ?_
        refine xo_off rfl rfl ?_
        refine xo_off rfl rfl ?_
        refine xo_off rfl rfl ?_
        refine xo_off rfl rfl ?_
        refine xo (e_pick_f (v := AV.bool false) rfl rfl rfl) ?_
        refine ato_nil ?_
        refine atn_seq ?_
        refine at_cond_f (x := C22_40) (y := C22_53) rfl rfl ?_
        refine at_skip ?_
        refine atn_seq ?_
        exact ih (.p8 s not_ t2 r38.2 set r38.1) _ hF _ _ _ _ _ _ h0 h2 h6 h7 h8 rfl o60 o61 o62 o58 n0_1 n0_2 n1_2 n51 n52 n53
  | p5 not_ t2 r_ set =>
    dsimp only at hF
    intro tm st i0 i1 i2 h2 h6 h7 h8 o0 o1 o2 n0_1 n0_2 n1_2
    refine at_seq (a := C22_63) (b := C22_70) ?_
    refine at_seq (a := C22_64) (b := C22_65) ?_
    refine at_ops (l := O22_64) ?_
    refine xo (e_mv' (v := AV.ptr i1 0) h6) ?_
    refine xo (e_nilck rfl o1) ?_
    refine xo (e_faddr rfl o1) ?_
    refine xo (e_load1 rfl o1 (LR.comp (LR.whole _ _) (lr52_bad r_ r_.bad))) ?_
    refine xo (e_bin (v := .bool (decide (r_.bad ≥ 0))) rfl rfl rfl) ?_
    refine ato_nil ?_
    refine atn_seq ?_
    refine at_cond (x := C22_66) (y := C22_69) rfl (fun c110 => ?_) (fun c110 => ?_)
    · have hF := ite_t c110 hF
      refine at_seq (a := C22_67) (b := C22_68) ?_
      refine at_draws (q := Q22_67) (suf := S22_67) h2 o0 fun s114 s111 d115 k116 l117 k112 _ => ?_
      have o118 := keep0 k112 o0
      have o119 := keep0 k112 o1
      have o120 := k116 _ _ o1 (Ne.symm n0_1)
      refine xd rfl (e_build (z := [(.int .u64 0), (.int .u64 0), (.int .u64 0), (.int .u64 0)]) (cs := c24 (Arr.rep 4 0)) pk_nil (show fillA (c24 (Arr.rep 4 0)) _ = _ from (fl_nil _))) ?_
      refine xd rfl (e_mv' (v := AV.ptr i1 0) h6) ?_
      refine xd rfl (e_nilck rfl o120) ?_
      refine xd rfl (e_faddr rfl o120) ?_
      refine xd rfl (e_load1 rfl o120 (LR.comp (LR.whole _ _) (lr52_bad r_ r_.bad))) ?_
      refine xd_store h2 d115 o118 (LR.whole _ _) (c24_len _) rfl rfl (c24_len _) (c24_one _) fun s121 o122 k123 => ?_
      refine xd rfl (e_mv' (v := AV.int .i64 0) rfl) ?_
      refine xd rfl (e_mv' (v := AV.int .i64 70) rfl) ?_
      refine xd rfl (e_mv' (v := AV.int .i64 r_.bad) rfl) ?_
      refine atd_nil ?_
      refine ato_nil ?_
      refine atn_seq ?_
      refine at_ret ?_
      cases hF
      exact atr (rl_cellN h2 o122 (LR.whole _ _) (c24_len _) (rl_tmp rfl (rl_tmp rfl (rl_tmp rfl rl_nil)))) (isd (ds_tup (dsl_cons (ds_eq rfl (ds_agg (c24_ds _))) (dsl_cons (ds_eq rfl ds_i) (dsl_cons (ds_eq rfl ds_i) (dsl_cons (ds_eq rfl ds_i) dsl_nil))))))
    · have hF := ite_f c110 hF
      refine at_skip ?_
      refine atn_seq ?_
      refine at_seq (a := C22_71) (b := C22_76) ?_
      refine at_seq (a := C22_72) (b := C22_73) ?_
      refine at_ops (l := O22_72) ?_
      refine xo (e_mv' (v := AV.bool not_) h7) ?_
      refine ato_nil ?_
      refine atn_seq ?_
      refine at_cond (x := C22_74) (y := C22_75) rfl (fun c124 => ?_) (fun c124 => ?_)
      · have hF := ite_t c124 hF
        refine at_ops (l := O22_74) ?_
        refine xo (e_loadN h8 o2 (LR.whole _ _) (c24_len _)) ?_
        obtain ⟨r125, g126, hF⟩ := bind_some hF
        refine xo_dfun' (d29 set _ g126) (dsl_cons (ds_eq rfl (ds_agg (c24_ds _))) dsl_nil) ?_
        refine xo_store h8 o2 (LR.whole _ _) (c24_len _) rfl rfl (c24_len _) (c24_one _) fun s127 o128 k129 => ?_
        have o130 := k129 _ _ o0 n0_2
        have o131 := k129 _ _ o1 n1_2
        refine ato_nil ?_
        refine atn_seq ?_
        exact ih (.p9 t2 r_ r125) _ hF _ _ _ _ _ h2 h6 h8 o130 o131 o128 n0_1 n0_2 n1_2
      · have hF := ite_f c124 hF
        refine at_skip ?_
        refine atn_seq ?_
        exact ih (.p9 t2 r_ set) _ hF _ _ _ _ _ h2 h6 h8 o0 o1 o2 n0_1 n0_2 n1_2
  | p6 s not_ at_ t2 r_ set x_ y =>
    dsimp only at hF
    intro tm st i0 i1 i2 i3 i4 h0 h2 h6 h7 h8 h10 h11 h12 o0 o1 o2 o3 o4 n0_1 n0_2 n1_2 n0_3 n1_3 n2_3 n0_4 n1_4 n2_4 n3_4
    refine at_ops (l := O22_50) ?_
    refine xo (e_mv' (v := AV.ptr i1 0) h6) ?_
    refine xo (e_mv' (v := AV.int .i64 at_) h11) ?_
    obtain ⟨r132, g133, hF⟩ := bind_some hF
    refine xo_callO (al_cons (ar_eq rfl) (al_cons (ar_eq rfl) al_nil)) (d39 r_ at_ _ g133 _ _ _ o1 fun s134 k135 o136 => ?_)
    have o137 := k135 _ _ o0 n0_1
    have o138 := k135 _ _ o2 (Ne.symm n1_2)
    have o139 := k135 _ _ o3 (Ne.symm n1_3)
    have o140 := k135 _ _ o4 (Ne.symm n1_4)
    refine ato_nil ?_
    refine atn_seq ?_
    exact ih (.p7 s not_ t2 r132.2 set x_ y) _ hF _ _ _ _ _ _ _ h0 h2 h6 h7 h8 h10 h12 o137 o136 o138 o139 o140 n0_1 n0_2 n1_2 n0_3 n1_3 n2_3 n0_4 n1_4 n2_4 n3_4
  | p7 s not_ t2 r_ set x_ y =>
    dsimp only at hF
    intro tm st i0 i1 i2 i3 i4 h0 h2 h6 h7 h8 h10 h12 o0 o1 o2 o3 o4 n0_1 n0_2 n1_2 n0_3 n1_3 n2_3 n0_4 n1_4 n2_4 n3_4
    refine at_ops (l := O22_52) ?_
    refine xo (e_faddr h10 o3) ?_
    refine xo (e_load1 rfl o3 (LR.comp (LR.whole _ _) (lr54_c x_ x_.c))) ?_
    refine xo (e_faddr h12 o4) ?_
    refine xo (e_load1 rfl o4 (LR.comp (LR.whole _ _) (lr54_c y y.c))) ?_
    obtain ⟨r141, g142, hF⟩ := bind_some hF
    refine xo_dfun' (d20 x_.c y.c _ g142) (dsl_cons (ds_eq rfl ds_i) (dsl_cons (ds_eq rfl ds_i) dsl_nil)) ?_
    refine xo (e_faddr h10 o3) ?_
    refine xo_store rfl o3 (LR.comp (LR.whole _ _) (lr54_set x_ r141)) (c24_len _) rfl rfl (c24_len _) (c24_one _) fun s143 o144 k145 => ?_
    have o146 := k145 _ _ o0 n0_3
    have o147 := k145 _ _ o1 n1_3
    have o148 := k145 _ _ o2 n2_3
    refine ato_nil ?_
    refine atn_seq ?_
    exact ih (.p8 s not_ t2 r_ set ({ x_ with set := r141 } : T54)) _ hF _ _ _ _ _ _ h0 h2 h6 h7 h8 h10 o146 o147 o148 o144 n0_1 n0_2 n1_2 n0_3 n1_3 n2_3
  | p8 s not_ t2 r_ set x_ =>
    dsimp only at hF
    intro tm st i0 i1 i2 i3 h0 h2 h6 h7 h8 h10 o0 o1 o2 o3 n0_1 n0_2 n1_2 n0_3 n1_3 n2_3
    refine at_seq (a := C22_55) (b := C22_60) ?_
    refine at_seq (a := C22_56) (b := C22_57) ?_
    refine at_ops (l := O22_56) ?_
    refine xo (e_mv' (v := AV.ptr i1 0) h6) ?_
    refine xo (e_nilck rfl o1) ?_
    refine xo (e_faddr rfl o1) ?_
    refine xo (e_load1 rfl o1 (LR.comp (LR.whole _ _) (lr52_bad r_ r_.bad))) ?_
    refine xo (e_bin (v := .bool (decide (r_.bad ≥ 0))) rfl rfl rfl) ?_
    refine ato_nil ?_
    refine atn_seq ?_
    refine at_cond (x := C22_58) (y := C22_59) rfl (fun c149 => ?_) (fun c149 => ?_)
    · have hF := ite_t c149 hF
      refine at_exit ?_
      refine atx (k' := [.seq C22_62]) rfl ?_
      refine atn_seq ?_
      exact ih (.p5 not_ t2 r_ set) _ hF _ _ _ _ _ h2 h6 h7 h8 o0 o1 o2 n0_1 n0_2 n1_2
    · have hF := ite_f c149 hF
      refine at_skip ?_
      refine atn_seq ?_
      refine at_ops (l := O22_60) ?_
      refine xo (e_loadN h8 o2 (LR.whole _ _) (c24_len _)) ?_
      refine xo (e_faddr h10 o3) ?_
      refine xo (e_loadN rfl o3 (LR.comp (LR.whole _ _) (lr54_set x_ x_.set)) (c24_len _)) ?_
      obtain ⟨r150, g151, hF⟩ := bind_some hF
      refine xo_dfun' (d27 set x_.set _ g151) (dsl_cons (ds_eq rfl (ds_agg (c24_ds _))) (dsl_cons (ds_eq rfl (ds_agg (c24_ds _))) dsl_nil)) ?_
      refine xo_store h8 o2 (LR.whole _ _) (c24_len _) rfl rfl (c24_len _) (c24_one _) fun s152 o153 k154 => ?_
      have o155 := k154 _ _ o0 n0_2
      have o156 := k154 _ _ o1 n1_2
      refine ato_nil ?_
      refine atn_blk ?_
      refine atn_seq ?_
      refine at_ops (l := O22_61) ?_
      refine xo (e_mv' (v := AV.bool false) rfl) ?_
      refine ato_nil ?_
      refine atn_lp ?_
      exact ih (.p3 s not_ false t2 r_ r150) _ hF _ _ _ _ _ h0 h2 h6 h7 h8 rfl o155 o156 o153 n0_1 n0_2 n1_2
  | p9 t2 r_ set =>
    dsimp only at hF
    intro tm st i0 i1 i2 h2 h6 h8 o0 o1 o2 n0_1 n0_2 n1_2
    refine at_seq (a := C22_77) (b := C22_78) ?_
    refine at_draws (q := Q22_77) (suf := S22_77) h2 o0 fun s160 s157 d161 k162 l163 k158 _ => ?_
    have o164 := keep0 k158 o0
    have o165 := keep0 k158 o1
    have o166 := k162 _ _ o1 (Ne.symm n0_1)
    have o167 := keep0 k158 o2
    have o168 := k162 _ _ o2 (Ne.symm n0_2)
    refine xd rfl (e_loadN h8 o168 (LR.whole _ _) (c24_len _)) ?_
    refine xd rfl (e_mv' (v := AV.ptr i1 0) h6) ?_
    refine xd rfl (e_nilck rfl o166) ?_
    refine xd rfl (e_faddr rfl o166) ?_
    refine xd rfl (e_load1 rfl o166 (LR.comp (LR.whole _ _) (lr52_i r_ r_.i))) ?_
    refine xd rfl (e_bin (v := .int .i64 (IntKind.wrap .i64 (r_.i + 1))) rfl rfl rfl) ?_
    refine xd_store h2 d161 o164 (LR.whole _ _) (c24_len _) rfl rfl (c24_len _) (c24_one _) fun s169 o170 k171 => ?_
    refine xd rfl (e_mv' (v := AV.int .i64 (IntKind.wrap .i64 (r_.i + 1))) rfl) ?_
    refine xd rfl (e_mv' (v := AV.int .i64 0) rfl) ?_
    refine xd rfl (e_mv' (v := AV.int .i64 0) rfl) ?_
    refine atd_nil ?_
    refine ato_nil ?_
    refine atn_seq ?_
    refine at_ret ?_
    cases hF
    exact atr (rl_cellN h2 o170 (LR.whole _ _) (c24_len _) (rl_tmp rfl (rl_tmp rfl (rl_tmp rfl rl_nil)))) (isd (ds_tup (dsl_cons (ds_eq rfl (ds_agg (c24_ds _))) (dsl_cons (ds_eq rfl ds_i) (dsl_cons (ds_eq rfl ds_i) (dsl_cons (ds_eq rfl ds_i) dsl_nil))))))
noncomputable def F22 (s : Str) : Option (Arr 4 Int × Int × Int × Int) :=
  (if (decide (((s).length : Int) > 0)) = true then
    (ix s 0 >>= fun b16 =>
      (G22 (.p1 s ((b16.toNat : Int) == 94) (Arr.rep 4 0) ({ s := s, i := 0, bad := (-1) } : T52))))
  else
    (G22 (.p1 s false (Arr.rep 4 0) ({ s := s, i := 0, bad := (-1) } : T52))))
theorem d22 (s : Str) (r : Arr 4 Int × Int × Int × Int) (hF : F22 s = some r) : DFun Try.prog noG 22 [AV.str s] (AV.tup [AV.agg (c24 r.1), AV.int .i64 r.2.1, AV.int .i64 r.2.2.1, AV.int .i64 r.2.2.2]) := by
  unfold F22 at hF
  refine dfun_at k22 (Nat.le_of_ble_eq_true rfl) ?_
  show At (X22 r) _ _ _ _
  refine at_seq (a := C22_2) (b := C22_3) ?_
  refine at_ops (l := O22_2) ?_
  refine xo_alloc (cs := c24 (Arr.rep 4 0)) rfl fun s2 i3 o4 k5 q6 => ?_
  refine xo (e_mv' (v := AV.int .i64 0) rfl) ?_
  refine xo (e_mv' (v := AV.int .i64 0) rfl) ?_
  refine xo (e_mv' (v := AV.int .i64 0) rfl) ?_
  refine ato_nil ?_
  refine atn_seq ?_
  refine at_seq (a := C22_4) (b := C22_5) ?_
  refine at_ops (l := O22_4) ?_
  refine xo (e_mv' (v := AV.str s) rfl) ?_
  refine xo (e_build (z := [(.str []), (.int .i64 0), (.int .i64 0)]) (cs := c52 ({ s := s, i := 0, bad := (-1) } : T52)) (pk_cons (cs := cS s) rfl rfl (cS_len _) (by decide) (pk_cons (cs := (cI .i64) (-1)) rfl rfl ((cI_len .i64) _) (by decide) pk_nil)) (show fillA (c52 ({ s := [], i := 0, bad := 0 } : T52)) _ = _ from (fl_cons (lr52_s ({ s := [], i := 0, bad := 0 } : T52) s) ((cS_len _).trans (cS_len _).symm) (fl_cons (lr52_bad ({ ({ s := [], i := 0, bad := 0 } : T52) with s := s } : T52) (-1)) (((cI_len .i64) _).trans ((cI_len .i64) _).symm) (fl_nil _))))) ?_
  refine xo_box (cs := c52 ({ s := s, i := 0, bad := (-1) } : T52)) rfl rfl (c52_len _) fun s8 i9 o10 k11 q12 => ?_
  have n13 : i3 ≠ i9 := fun e => ne_new o4 (e.trans q12)
  have o14 := keep0 k11 o4
  refine xo (e_mv' (v := AV.ptr i9 0) rfl) ?_
  refine ato_nil ?_
  refine atn_seq ?_
  refine at_seq (a := C22_6) (b := C22_7) ?_
  refine at_ops (l := O22_6) ?_
  refine xo (e_mv' (v := AV.str s) rfl) ?_
  refine xo (e_lenS rfl) ?_
  refine xo (e_bin (v := .bool (decide (((s).length : Int) > 0))) rfl rfl rfl) ?_
  refine xo (e_mv' (v := AV.bool (decide (((s).length : Int) > 0))) rfl) ?_
  refine bsplit (b := decide (((s).length : Int) > 0)) (fun c15 => ?_) (fun c15 => ?_)
  · have hF := ite_t c15 hF
    refine xo_on rfl c15 ?_
    refine xo (e_mv' (v := AV.str s) rfl) ?_
    obtain ⟨b16, g17, hF⟩ := bind_some hF
    refine xo_on rfl c15 ?_
    refine xo (e_ixS rfl rfl g17) ?_
    refine xo_on rfl c15 ?_
    refine xo (e_bin (v := .bool (((b16.toNat : Int) == 94))) rfl rfl rfl) ?_
    refine xo (e_pick_t (v := AV.bool ((b16.toNat : Int) == 94)) rfl c15 rfl) ?_
    refine xo (e_mv' (v := AV.bool ((b16.toNat : Int) == 94)) rfl) ?_
    refine ato_nil ?_
    refine atn_seq ?_
    exact w22 (.p1 s ((b16.toNat : Int) == 94) (Arr.rep 4 0) ({ s := s, i := 0, bad := (-1) } : T52)) _ hF _ _ _ _ rfl rfl rfl rfl o14 o10 n13
  · have hF := ite_f c15 hF
    refine xo_off rfl c15 ?_
    refine xo_off rfl c15 ?_
    refine xo_off rfl c15 ?_
    refine xo (e_pick_f (v := AV.bool false) rfl c15 rfl) ?_
    refine xo (e_mv' (v := AV.bool false) rfl) ?_
    refine ato_nil ?_
    refine atn_seq ?_
    exact w22 (.p1 s false (Arr.rep 4 0) ({ s := s, i := 0, bad := (-1) } : T52)) _ hF _ _ _ _ rfl rfl rfl rfl o14 o10 n13
/-! ### 11: paddock/paddocklaw07.lives -/
def O11_2 : List AOp := [⟨(.some 0), .none, (.plain (.mv (.c (.bool false))))⟩]
def C11_2 : ACode := .ops O11_2
def O11_4_1 : List AOp := ⟨(.some 2), .none, (.plain (.mv (.t 12)))⟩ :: ⟨(.some 3), .none, (.plain (.mv (.t 13)))⟩ :: ⟨(.some 4), .none, (.plain (.mv (.t 14)))⟩ :: []
def O11_4 : List AOp := ⟨(.some 10), .none, (.call 22 [(.c (.str [94, 48, 45, 57, 93, 120]))])⟩ :: ⟨(.some 9), .none, (.plain (.mv (.t 10)))⟩ :: ⟨(.some 11), .none, (.plain (.extract (.t 9) 0))⟩ :: ⟨(.some 12), .none, (.plain (.extract (.t 9) 1))⟩ :: ⟨(.some 13), .none, (.plain (.extract (.t 9) 2))⟩ :: ⟨(.some 14), .none, (.plain (.extract (.t 9) 3))⟩ :: ⟨(.some 1), .none, (.plain (.alloc [(.int .u64 0), (.int .u64 0), (.int .u64 0), (.int .u64 0)]))⟩ :: ⟨.none, .none, (.plain (.store 4 (.t 1) (.t 11)))⟩ :: O11_4_1
def C11_4 : ACode := .ops O11_4
def O11_6_1 : List AOp := ⟨(.some 6), .none, (.plain (.mv (.t 18)))⟩ :: ⟨(.some 7), .none, (.plain (.mv (.t 19)))⟩ :: ⟨(.some 8), .none, (.plain (.mv (.t 20)))⟩ :: []
def O11_6 : List AOp := ⟨(.some 16), .none, (.call 22 [(.c (.str [99, 45, 97, 93]))])⟩ :: ⟨(.some 15), .none, (.plain (.mv (.t 16)))⟩ :: ⟨(.some 17), .none, (.plain (.extract (.t 15) 0))⟩ :: ⟨(.some 18), .none, (.plain (.extract (.t 15) 1))⟩ :: ⟨(.some 19), .none, (.plain (.extract (.t 15) 2))⟩ :: ⟨(.some 20), .none, (.plain (.extract (.t 15) 3))⟩ :: ⟨(.some 5), .none, (.plain (.alloc [(.int .u64 0), (.int .u64 0), (.int .u64 0), (.int .u64 0)]))⟩ :: ⟨.none, .none, (.plain (.store 4 (.t 5) (.t 17)))⟩ :: O11_6_1
def C11_6 : ACode := .ops O11_6
def O11_8_4 : List AOp := ⟨(.some 53), (.some (49, true)), (.call 24 [(.t 52)])⟩ :: ⟨(.some 54), (.some (49, true)), (.plain (.binS .eql (.t 53) (.c (.str [97, 45, 99, 93]))))⟩ :: ⟨(.some 55), .none, (.plain (.pick (.t 49) (.t 54) (.c (.bool false))))⟩ :: ⟨(.some 0), .none, (.plain (.mv (.t 55)))⟩ :: []
def O11_8_3 : List AOp := ⟨(.some 45), .none, (.plain (.mv (.t 44)))⟩ :: ⟨(.some 46), (.some (45, true)), (.plain (.mv (.t 8)))⟩ :: ⟨(.some 47), (.some (45, true)), (.plain (.binI .eql (.t 46) (.c (.int .i64 2))))⟩ :: ⟨(.some 48), .none, (.plain (.pick (.t 45) (.t 47) (.c (.bool false))))⟩ :: ⟨(.some 49), .none, (.plain (.mv (.t 48)))⟩ :: ⟨(.some 50), (.some (49, true)), (.plain (.bslice 1 3 false [(.int .u8 0)] [(0, (1, (.c (.int .u8 99)))), (1, (1, (.c (.int .u8 97)))), (2, (1, (.c (.int .u8 98))))] false))⟩ :: ⟨(.some 51), (.some (49, true)), (.plain (.cvB (.t 50)))⟩ :: ⟨(.some 52), (.some (49, true)), (.call 12 [(.t 51)])⟩ :: O11_8_4
def O11_8_2 : List AOp := ⟨(.some 37), (.some (36, true)), (.plain (.loadN 4 (.t 1)))⟩ :: ⟨(.some 38), (.some (36, true)), (.call 19 [(.t 37)])⟩ :: ⟨(.some 39), (.some (36, true)), (.plain (.binI .eql (.t 38) (.c (.int .i64 246))))⟩ :: ⟨(.some 40), .none, (.plain (.pick (.t 36) (.t 39) (.c (.bool false))))⟩ :: ⟨(.some 41), .none, (.plain (.mv (.t 40)))⟩ :: ⟨(.some 42), (.some (41, true)), (.plain (.mv (.t 7)))⟩ :: ⟨(.some 43), (.some (41, true)), (.plain (.binI .eql (.t 42) (.c (.int .i64 70))))⟩ :: ⟨(.some 44), .none, (.plain (.pick (.t 41) (.t 43) (.c (.bool false))))⟩ :: O11_8_3
def O11_8_1 : List AOp := ⟨(.some 29), (.some (27, true)), (.call 17 [(.t 28), (.c (.int .u8 53))])⟩ :: ⟨(.some 30), (.some (27, true)), (.plain (.un .not (.t 29)))⟩ :: ⟨(.some 31), .none, (.plain (.pick (.t 27) (.t 30) (.c (.bool false))))⟩ :: ⟨(.some 32), .none, (.plain (.mv (.t 31)))⟩ :: ⟨(.some 33), (.some (32, true)), (.plain (.loadN 4 (.t 1)))⟩ :: ⟨(.some 34), (.some (32, true)), (.call 17 [(.t 33), (.c (.int .u8 97))])⟩ :: ⟨(.some 35), .none, (.plain (.pick (.t 32) (.t 34) (.c (.bool false))))⟩ :: ⟨(.some 36), .none, (.plain (.mv (.t 35)))⟩ :: O11_8_2
def O11_8 : List AOp := ⟨(.some 21), .none, (.plain (.mv (.t 3)))⟩ :: ⟨(.some 22), .none, (.plain (.binI .eql (.t 21) (.c (.int .i64 0))))⟩ :: ⟨(.some 23), .none, (.plain (.mv (.t 22)))⟩ :: ⟨(.some 24), (.some (23, true)), (.plain (.mv (.t 2)))⟩ :: ⟨(.some 25), (.some (23, true)), (.plain (.binI .eql (.t 24) (.c (.int .i64 5))))⟩ :: ⟨(.some 26), .none, (.plain (.pick (.t 23) (.t 25) (.c (.bool false))))⟩ :: ⟨(.some 27), .none, (.plain (.mv (.t 26)))⟩ :: ⟨(.some 28), (.some (27, true)), (.plain (.loadN 4 (.t 1)))⟩ :: O11_8_1
def C11_8 : ACode := .ops O11_8
def C11_9 : ACode := .ret
def C11_7 : ACode := .seq C11_8 C11_9
def C11_5 : ACode := .seq C11_6 C11_7
def C11_3 : ACode := .seq C11_4 C11_5
def C11_1 : ACode := .seq C11_2 C11_3
def R11 : List RA := [(.tmp 0)]
theorem k11 : compF Try.prog (muL []) 11 = some ⟨56, C11_1, R11⟩ := by kernel_rfl
noncomputable def X11 (r : Bool) : Cx := ⟨Try.prog, noG, 56, muL [], R11, isD (fun x => x = AV.bool r)⟩
noncomputable def F11  : Option Bool :=
  (F22 ([94, 48, 45, 57, 93, 120] : Str) >>= fun r1 =>
    (F22 ([99, 45, 97, 93] : Str) >>= fun r12 =>
      (if (r1.2.2.1 == 0) = true then
        (if (r1.2.1 == 5) = true then
          (F17 r1.1 53 >>= fun r28 =>
            (if (!r28) = true then
              (F17 r1.1 97 >>= fun r31 =>
                (if r31 = true then
                  (F19 r1.1 >>= fun r34 =>
                    (if (r34 == 246) = true then
                      (if (r12.2.2.1 == 70) = true then
                        (if (r12.2.2.2 == 2) = true then
                          (F12 (some ([99, 97, 98] : List Int)) >>= fun r44 =>
                            (F24 r44 >>= fun r46 =>
                              (some (r46 == ([97, 45, 99, 93] : Str)))))
                        else
                          (some false))
                      else
                        (some false))
                    else
                      (some false)))
                else
                  (some false)))
            else
              (some false)))
        else
          (some false))
      else
        (some false))))
theorem d11  (r : Bool) (hF : F11  = some r) : DFun Try.prog noG 11 [] (AV.bool r) := by
  unfold F11 at hF
  refine dfun_at k11 (Nat.le_of_ble_eq_true rfl) ?_
  show At (X11 r) _ _ _ _
  refine at_seq (a := C11_2) (b := C11_3) ?_
  refine at_ops (l := O11_2) ?_
  refine xo (e_mv' (v := AV.bool false) rfl) ?_
  refine ato_nil ?_
  refine atn_seq ?_
  refine at_seq (a := C11_4) (b := C11_5) ?_
  refine at_ops (l := O11_4) ?_
  obtain ⟨r1, g2, hF⟩ := bind_some hF
  refine xo_dfun' (d22 ([94, 48, 45, 57, 93, 120] : Str) _ g2) (dsl_cons (ds_eq rfl ds_s) dsl_nil) ?_
  refine xo (e_mv' (v := AV.tup [AV.agg (c24 r1.1), AV.int .i64 r1.2.1, AV.int .i64 r1.2.2.1, AV.int .i64 r1.2.2.2]) rfl) ?_
  refine xo (e_extract (v := AV.agg (c24 r1.1)) rfl rfl) ?_
  refine xo (e_extract (v := AV.int .i64 r1.2.1) rfl rfl) ?_
  refine xo (e_extract (v := AV.int .i64 r1.2.2.1) rfl rfl) ?_
  refine xo (e_extract (v := AV.int .i64 r1.2.2.2) rfl rfl) ?_
  refine xo_alloc (cs := c24 (Arr.rep 4 0)) rfl fun s4 i5 o6 k7 q8 => ?_
  refine xo_store rfl o6 (LR.whole _ _) (c24_len _) rfl rfl (c24_len _) (c24_one _) fun s9 o10 k11 => ?_
  refine xo (e_mv' (v := AV.int .i64 r1.2.1) rfl) ?_
  refine xo (e_mv' (v := AV.int .i64 r1.2.2.1) rfl) ?_
  refine xo (e_mv' (v := AV.int .i64 r1.2.2.2) rfl) ?_
  refine ato_nil ?_
  refine atn_seq ?_
  refine at_seq (a := C11_6) (b := C11_7) ?_
  refine at_ops (l := O11_6) ?_
  obtain ⟨r12, g13, hF⟩ := bind_some hF
  refine xo_dfun' (d22 ([99, 45, 97, 93] : Str) _ g13) (dsl_cons (ds_eq rfl ds_s) dsl_nil) ?_
  refine xo (e_mv' (v := AV.tup [AV.agg (c24 r12.1), AV.int .i64 r12.2.1, AV.int .i64 r12.2.2.1, AV.int .i64 r12.2.2.2]) rfl) ?_
  refine xo (e_extract (v := AV.agg (c24 r12.1)) rfl rfl) ?_
  refine xo (e_extract (v := AV.int .i64 r12.2.1) rfl rfl) ?_
  refine xo (e_extract (v := AV.int .i64 r12.2.2.1) rfl rfl) ?_
  refine xo (e_extract (v := AV.int .i64 r12.2.2.2) rfl rfl) ?_
  refine xo_alloc (cs := c24 (Arr.rep 4 0)) rfl fun s15 i16 o17 k18 q19 => ?_
  have n20 : i5 ≠ i16 := fun e => ne_new o10 (e.trans q19)
  have o21 := keep0 k18 o10
  refine xo_store rfl o17 (LR.whole _ _) (c24_len _) rfl rfl (c24_len _) (c24_one _) fun s22 o23 k24 => ?_
  have o25 := k24 _ _ o21 n20
  refine xo (e_mv' (v := AV.int .i64 r12.2.1) rfl) ?_
  refine xo (e_mv' (v := AV.int .i64 r12.2.2.1) rfl) ?_
  refine xo (e_mv' (v := AV.int .i64 r12.2.2.2) rfl) ?_
  refine ato_nil ?_
  refine atn_seq ?_
  refine at_seq (a := C11_8) (b := C11_9) ?_
  refine at_ops (l := O11_8) ?_
  refine xo (e_mv' (v := AV.int .i64 r1.2.2.1) rfl) ?_
  refine xo (e_bin (v := .bool ((r1.2.2.1 == 0))) rfl rfl rfl) ?_
  refine xo (e_mv' (v := AV.bool (r1.2.2.1 == 0)) rfl) ?_
  refine bsplit (b := (r1.2.2.1 == 0)) (fun c26 => ?_) (fun c26 => ?_)
  · have hF := ite_t c26 hF
    refine xo_on rfl c26 ?_
    refine xo (e_mv' (v := AV.int .i64 r1.2.1) rfl) ?_
    refine xo_on rfl c26 ?_
    refine xo (e_bin (v := .bool ((r1.2.1 == 5))) rfl rfl rfl) ?_
    refine xo (e_pick_t (v := AV.bool (r1.2.1 == 5)) rfl c26 rfl) ?_
    refine xo (e_mv' (v := AV.bool (r1.2.1 == 5)) rfl) ?_
    refine bsplit (b := (r1.2.1 == 5)) (fun c27 => ?_) (fun c27 => ?_)
    · have hF := ite_t c27 hF
      refine xo_on rfl c27 ?_
      refine xo (e_loadN rfl o25 (LR.whole _ _) (c24_len _)) ?_
      obtain ⟨r28, g29, hF⟩ := bind_some hF
      refine xo_on rfl c27 ?_
      refine xo_dfun' (d17 r1.1 53 _ g29) (dsl_cons (ds_eq rfl (ds_agg (c24_ds _))) (dsl_cons (ds_eq rfl ds_i) dsl_nil)) ?_
      refine xo_on rfl c27 ?_
      refine xo (e_not rfl) ?_
      refine xo (e_pick_t (v := AV.bool (!r28)) rfl c27 rfl) ?_
      refine xo (e_mv' (v := AV.bool (!r28)) rfl) ?_
      refine bsplit (b := (!r28)) (fun c30 => ?_) (fun c30 => ?_)
      · have hF := ite_t c30 hF
        refine xo_on rfl c30 ?_
        refine xo (e_loadN rfl o25 (LR.whole _ _) (c24_len _)) ?_
        obtain ⟨r31, g32, hF⟩ := bind_some hF
        refine xo_on rfl c30 ?_
        refine xo_dfun' (d17 r1.1 97 _ g32) (dsl_cons (ds_eq rfl (ds_agg (c24_ds _))) (dsl_cons (ds_eq rfl ds_i) dsl_nil)) ?_
        refine xo (e_pick_t (v := AV.bool r31) rfl c30 rfl) ?_
        refine xo (e_mv' (v := AV.bool r31) rfl) ?_
        refine bsplit (b := r31) (fun c33 => ?_) (fun c33 => ?_)
        · have hF := ite_t c33 hF
          refine xo_on rfl c33 ?_
          refine xo (e_loadN rfl o25 (LR.whole _ _) (c24_len _)) ?_
          obtain ⟨r34, g35, hF⟩ := bind_some hF
          refine xo_on rfl c33 ?_
          refine xo_dfun' (d19 r1.1 _ g35) (dsl_cons (ds_eq rfl (ds_agg (c24_ds _))) dsl_nil) ?_
          refine xo_on rfl c33 ?_
          refine xo (e_bin (v := .bool ((r34 == 246))) rfl rfl rfl) ?_
          refine xo (e_pick_t (v := AV.bool (r34 == 246)) rfl c33 rfl) ?_
          refine xo (e_mv' (v := AV.bool (r34 == 246)) rfl) ?_
          refine bsplit (b := (r34 == 246)) (fun c36 => ?_) (fun c36 => ?_)
          · have hF := ite_t c36 hF
            refine xo_on rfl c36 ?_
            refine xo (e_mv' (v := AV.int .i64 r12.2.2.1) rfl) ?_
            refine xo_on rfl c36 ?_
            refine xo (e_bin (v := .bool ((r12.2.2.1 == 70))) rfl rfl rfl) ?_
            refine xo (e_pick_t (v := AV.bool (r12.2.2.1 == 70)) rfl c36 rfl) ?_
            refine xo (e_mv' (v := AV.bool (r12.2.2.1 == 70)) rfl) ?_
            refine bsplit (b := (r12.2.2.1 == 70)) (fun c37 => ?_) (fun c37 => ?_)
            · have hF := ite_t c37 hF
              refine xo_on rfl c37 ?_
              refine xo (e_mv' (v := AV.int .i64 r12.2.2.2) rfl) ?_
              refine xo_on rfl c37 ?_
              refine xo (e_bin (v := .bool ((r12.2.2.2 == 2))) rfl rfl rfl) ?_
              refine xo (e_pick_t (v := AV.bool (r12.2.2.2 == 2)) rfl c37 rfl) ?_
              refine xo (e_mv' (v := AV.bool (r12.2.2.2 == 2)) rfl) ?_
              refine bsplit (b := (r12.2.2.2 == 2)) (fun c38 => ?_) (fun c38 => ?_)
              · have hF := ite_t c38 hF
                refine xo_on rfl c38 ?_
                refine xo_bslice (f := AV.int .u8) (m := ([99, 97, 98] : List Int)) (pk_cons (cs := (cI .u8) 99) rfl rfl ((cI_len .u8) _) (by decide) (pk_cons (cs := (cI .u8) 97) rfl rfl ((cI_len .u8) _) (by decide) (pk_cons (cs := (cI .u8) 98) rfl rfl ((cI_len .u8) _) (by decide) pk_nil))) rfl rfl rfl fun s39 i40 o41 k42 q43 => ?_
                refine xo_on rfl c38 ?_
                refine xo_cvB rfl o41 ?_
                obtain ⟨r44, g45, hF⟩ := bind_some hF
                refine xo_on rfl c38 ?_
                refine xo_dfun' (d12 (some ([99, 97, 98] : List Int)) _ g45) (dsl_cons (ds_rd (fun _ => ds_i) (rd_T rfl)) dsl_nil) ?_
                obtain ⟨r46, g47, hF⟩ := bind_some hF
                refine xo_on rfl c38 ?_
                refine xo_dfun' (d24 r44 _ g47) (dsl_cons (ds_eq rfl (ds_agg (c24_ds _))) dsl_nil) ?_
                refine xo_on rfl c38 ?_
                refine xo (e_str (v := .bool (r46 == ([97, 45, 99, 93] : Str))) rfl rfl rfl) ?_
                refine xo (e_pick_t (v := AV.bool (r46 == ([97, 45, 99, 93] : Str))) rfl c38 rfl) ?_
                refine xo (e_mv' (v := AV.bool (r46 == ([97, 45, 99, 93] : Str))) rfl) ?_
                refine ato_nil ?_
                refine atn_seq ?_
                refine at_ret ?_
                cases hF
                exact atr (rl_tmp rfl rl_nil) (isd (ds_eq rfl ds_b))
              · have hF := ite_f c38 hF
                refine xo_off rfl c38 ?_
                refine xo_off rfl c38 ?_
                refine xo_off rfl c38 ?_
                refine xo_off rfl c38 ?_
                refine xo_off rfl c38 ?_
                refine xo (e_pick_f (v := AV.bool false) rfl c38 rfl) ?_
                refine xo (e_mv' (v := AV.bool false) rfl) ?_
                refine ato_nil ?_
                refine atn_seq ?_
                refine at_ret ?_
                cases hF
                exact atr (rl_tmp rfl rl_nil) (isd (ds_eq rfl ds_b))
            · have hF := ite_f c37 hF
              refine xo_off rfl c37 ?_
              refine xo_off rfl c37 ?_
              refine xo (e_pick_f (v := AV.bool false) rfl c37 rfl) ?_
              refine xo (e_mv' (v := AV.bool false) rfl) ?_
              refine xo_off rfl rfl ?_
              refine xo_off rfl rfl ?_
              refine xo_off rfl rfl ?_
              refine xo_off rfl rfl ?_
              refine xo_off rfl rfl ?_
              refine xo (e_pick_f (v := AV.bool false) rfl rfl rfl) ?_
              refine xo (e_mv' (v := AV.bool false) rfl) ?_
              refine ato_nil ?_
              refine atn_seq ?_
              refine at_ret ?_
              cases hF
              exact atr (rl_tmp rfl rl_nil) (isd (ds_eq rfl ds_b))
          · have hF := ite_f c36 hF
            refine xo_off rfl c36 ?_
            refine xo_off rfl c36 ?_
            refine xo (e_pick_f (v := AV.bool false) rfl c36 rfl) ?_
            refine xo (e_mv' (v := AV.bool false) rfl) ?_
            refine xo_off rfl rfl ?_
            refine xo_off rfl rfl ?_
            refine xo (e_pick_f (v := AV.bool false) rfl rfl rfl) ?_
            refine xo (e_mv' (v := AV.bool false) rfl) ?_
            refine xo_off rfl rfl ?_
            refine xo_off rfl rfl ?_
            refine xo_off rfl rfl ?_
            refine xo_off rfl rfl ?_
            refine xo_off rfl rfl ?_
            refine xo (e_pick_f (v := AV.bool false) rfl rfl rfl) ?_
            refine xo (e_mv' (v := AV.bool false) rfl) ?_
            refine ato_nil ?_
            refine atn_seq ?_
            refine at_ret ?_
            cases hF
            exact atr (rl_tmp rfl rl_nil) (isd (ds_eq rfl ds_b))
        · have hF := ite_f c33 hF
          refine xo_off rfl c33 ?_
          refine xo_off rfl c33 ?_
          refine xo_off rfl c33 ?_
          refine xo (e_pick_f (v := AV.bool false) rfl c33 rfl) ?_
          refine xo (e_mv' (v := AV.bool false) rfl) ?_
          refine xo_off rfl rfl ?_
          refine xo_off rfl rfl ?_
          refine xo (e_pick_f (v := AV.bool false) rfl rfl rfl) ?_
          refine xo (e_mv' (v := AV.bool false) rfl) ?_
          refine xo_off rfl rfl ?_
          refine xo_off rfl rfl ?_
          refine xo (e_pick_f (v := AV.bool false) rfl rfl rfl) ?_
          refine xo (e_mv' (v := AV.bool false) rfl) ?_
          refine xo_off rfl rfl ?_
          refine xo_off rfl rfl ?_
          refine xo_off rfl rfl ?_
          refine xo_off rfl rfl ?_
          refine xo_off rfl rfl ?_
          refine xo (e_pick_f (v := AV.bool false) rfl rfl rfl) ?_
          refine xo (e_mv' (v := AV.bool false) rfl) ?_
          refine ato_nil ?_
          refine atn_seq ?_
          refine at_ret ?_
          cases hF
          exact atr (rl_tmp rfl rl_nil) (isd (ds_eq rfl ds_b))
      · have hF := ite_f c30 hF
        refine xo_off rfl c30 ?_
        refine xo_off rfl c30 ?_
        refine xo (e_pick_f (v := AV.bool false) rfl c30 rfl) ?_
        refine xo (e_mv' (v := AV.bool false) rfl) ?_
        refine xo_off rfl rfl ?_
        refine xo_off rfl rfl ?_
        refine xo_off rfl rfl ?_
        refine xo (e_pick_f (v := AV.bool false) rfl rfl rfl) ?_
        refine xo (e_mv' (v := AV.bool false) rfl) ?_
        refine xo_off rfl rfl ?_
        refine xo_off rfl rfl ?_
        refine xo (e_pick_f (v := AV.bool false) rfl rfl rfl) ?_
        refine xo (e_mv' (v := AV.bool false) rfl) ?_
        refine xo_off rfl rfl ?_
        refine xo_off rfl rfl ?_
        refine xo (e_pick_f (v := AV.bool false) rfl rfl rfl) ?_
        refine xo (e_mv' (v := AV.bool false) rfl) ?_
        refine xo_off rfl rfl ?_
        refine xo_off rfl rfl ?_
        refine xo_off rfl rfl ?_
        refine xo_off rfl rfl ?_
        refine xo_off rfl rfl ?_
        refine xo (e_pick_f (v := AV.bool false) rfl rfl rfl) ?_
        refine xo (e_mv' (v := AV.bool false) rfl) ?_
        refine ato_nil ?_
        refine atn_seq ?_
        refine at_ret ?_
        cases hF
        exact atr (rl_tmp rfl rl_nil) (isd (ds_eq rfl ds_b))
    · have hF := ite_f c27 hF
      refine xo_off rfl c27 ?_
      refine xo_off rfl c27 ?_
      refine xo_off rfl c27 ?_
      refine xo (e_pick_f (v := AV.bool false) rfl c27 rfl) ?_
      refine xo (e_mv' (v := AV.bool false) rfl) ?_
      refine xo_off rfl rfl ?_
      refine xo_off rfl rfl ?_
      refine xo (e_pick_f (v := AV.bool false) rfl rfl rfl) ?_
      refine xo (e_mv' (v := AV.bool false) rfl) ?_
      refine xo_off rfl rfl ?_
      refine xo_off rfl rfl ?_
      refine xo_off rfl rfl ?_
      refine xo (e_pick_f (v := AV.bool false) rfl rfl rfl) ?_
      refine xo (e_mv' (v := AV.bool false) rfl) ?_
      refine xo_off rfl rfl ?_
      refine xo_off rfl rfl ?_
      refine xo (e_pick_f (v := AV.bool false) rfl rfl rfl) ?_
      refine xo (e_mv' (v := AV.bool false) rfl) ?_
      refine xo_off rfl rfl ?_
      refine xo_off rfl rfl ?_
      refine xo (e_pick_f (v := AV.bool false) rfl rfl rfl) ?_
      refine xo (e_mv' (v := AV.bool false) rfl) ?_
      refine xo_off rfl rfl ?_
      refine xo_off rfl rfl ?_
      refine xo_off rfl rfl ?_
      refine xo_off rfl rfl ?_
      refine xo_off rfl rfl ?_
      refine xo (e_pick_f (v := AV.bool false) rfl rfl rfl) ?_
      refine xo (e_mv' (v := AV.bool false) rfl) ?_
      refine ato_nil ?_
      refine atn_seq ?_
      refine at_ret ?_
      cases hF
      exact atr (rl_tmp rfl rl_nil) (isd (ds_eq rfl ds_b))
  · have hF := ite_f c26 hF
    refine xo_off rfl c26 ?_
    refine xo_off rfl c26 ?_
    refine xo (e_pick_f (v := AV.bool false) rfl c26 rfl) ?_
    refine xo (e_mv' (v := AV.bool false) rfl) ?_
    refine xo_off rfl rfl ?_
    refine xo_off rfl rfl ?_
    refine xo_off rfl rfl ?_
    refine xo (e_pick_f (v := AV.bool false) rfl rfl rfl) ?_
    refine xo (e_mv' (v := AV.bool false) rfl) ?_
    refine xo_off rfl rfl ?_
    refine xo_off rfl rfl ?_
    refine xo (e_pick_f (v := AV.bool false) rfl rfl rfl) ?_
    refine xo (e_mv' (v := AV.bool false) rfl) ?_
    refine xo_off rfl rfl ?_
    refine xo_off rfl rfl ?_
    refine xo_off rfl rfl ?_
    refine xo (e_pick_f (v := AV.bool false) rfl rfl rfl) ?_
    refine xo (e_mv' (v := AV.bool false) rfl) ?_
    refine xo_off rfl rfl ?_
    refine xo_off rfl rfl ?_
    refine xo (e_pick_f (v := AV.bool false) rfl rfl rfl) ?_
    refine xo (e_mv' (v := AV.bool false) rfl) ?_
    refine xo_off rfl rfl ?_
    refine xo_off rfl rfl ?_
    refine xo (e_pick_f (v := AV.bool false) rfl rfl rfl) ?_
    refine xo (e_mv' (v := AV.bool false) rfl) ?_
    refine xo_off rfl rfl ?_
    refine xo_off rfl rfl ?_
    refine xo_off rfl rfl ?_
    refine xo_off rfl rfl ?_
    refine xo_off rfl rfl ?_
    refine xo (e_pick_f (v := AV.bool false) rfl rfl rfl) ?_
    refine xo (e_mv' (v := AV.bool false) rfl) ?_
    refine ato_nil ?_
    refine atn_seq ?_
    refine at_ret ?_
    cases hF
    exact atr (rl_tmp rfl rl_nil) (isd (ds_eq rfl ds_b))
end Go.Proofs.Ytfjdegohjnejkaa
