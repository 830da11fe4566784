/-
  Functions of the program's as plain functions.
-/
import Derived.Test.YtfjdegohjnejkaaD2
set_option linter.unusedVariables false
set_option maxRecDepth 4000
set_option maxHeartbeats 4000000
namespace Go.Proofs.Ytfjdegohjnejkaa
open Go AW
attribute [local irreducible] At AtL AtO AtN AtX AtR AtD XS XLoop DFun XCall
/-! ### 24: paddock/sets.Print -/
def O24_2 : List AOp := [⟨(.some 1), .none, (.plain (.box 4 (.t 0)))⟩, ⟨(.some 2), .none, (.plain (.mv (.c (.str []))))⟩]
def C24_2 : ACode := .ops O24_2
def O24_4 : List AOp := [⟨(.some 3), .none, (.plain (.mv (.c (.str []))))⟩]
def C24_4 : ACode := .ops O24_4
def O24_6 : List AOp := [⟨(.some 8), .none, (.plain (.loadN 4 (.t 1)))⟩, ⟨(.some 9), .none, (.call 19 [(.t 8)])⟩, ⟨(.some 4), .none, (.plain (.mv (.t 9)))⟩]
def C24_6 : ACode := .ops O24_6
def O24_9_1 : List AOp := ⟨(.some 18), (.some (16, false)), (.plain (.binI .eql (.t 17) (.c (.int .i64 0))))⟩ :: ⟨(.some 19), .none, (.plain (.pick (.t 16) (.c (.bool true)) (.t 18)))⟩ :: []
def O24_9 : List AOp := ⟨(.some 10), .none, (.plain (.mv (.t 4)))⟩ :: ⟨(.some 11), .none, (.plain (.binI .gtr (.t 10) (.c (.int .i64 128))))⟩ :: ⟨(.some 12), .none, (.plain (.mv (.t 11)))⟩ :: ⟨(.some 13), (.some (12, true)), (.plain (.mv (.t 4)))⟩ :: ⟨(.some 14), (.some (12, true)), (.plain (.binI .lss (.t 13) (.c (.int .i64 256))))⟩ :: ⟨(.some 15), .none, (.plain (.pick (.t 12) (.t 14) (.c (.bool false))))⟩ :: ⟨(.some 16), .none, (.plain (.mv (.t 15)))⟩ :: ⟨(.some 17), (.some (16, false)), (.plain (.mv (.t 4)))⟩ :: O24_9_1
def C24_9 : ACode := .ops O24_9
def O24_12 : List AOp := [⟨(.some 3), .none, (.plain (.mv (.c (.str [94]))))⟩]
def C24_12 : ACode := .ops O24_12
def O24_13 : List AOp := [⟨(.some 20), .none, (.plain (.loadN 4 (.t 1)))⟩, ⟨(.some 21), .none, (.call 29 [(.t 20)])⟩, ⟨.none, .none, (.plain (.store 4 (.t 1) (.t 21)))⟩]
def C24_13 : ACode := .ops O24_13
def C24_11 : ACode := .seq C24_12 C24_13
def C24_14 : ACode := .skip
def C24_10 : ACode := .cond (.t 19) C24_11 C24_14
def C24_8 : ACode := .seq C24_9 C24_10
def O24_16 : List AOp := [⟨(.some 22), .none, (.plain (.loadN 4 (.t 1)))⟩, ⟨(.some 23), .none, (.call 15 [(.t 22)])⟩, ⟨(.some 5), .none, (.plain (.mv (.t 23)))⟩]
def C24_16 : ACode := .ops O24_16
def O24_19 : List AOp := [⟨(.some 6), .none, (.plain (.mv (.c (.int .i64 0))))⟩]
def C24_19 : ACode := .ops O24_19
def O24_24 : List AOp := [⟨(.some 24), .none, (.plain (.mv (.t 6)))⟩, ⟨(.some 25), .none, (.plain (.mv (.t 5)))⟩, ⟨(.some 26), .none, (.plain (.len (.t 25)))⟩, ⟨(.some 27), .none, (.plain (.binI .lss (.t 24) (.t 26)))⟩]
def C24_24 : ACode := .ops O24_24
def C24_26 : ACode := .skip
def C24_27 : ACode := .exit 0
def C24_25 : ACode := .cond (.t 27) C24_26 C24_27
def C24_23 : ACode := .seq C24_24 C24_25
def O24_30 : List AOp := [⟨(.some 28), .none, (.plain (.mv (.t 6)))⟩, ⟨(.some 7), .none, (.plain (.mv (.t 28)))⟩]
def C24_30 : ACode := .ops O24_30
def Q24_36_2 : List AOp := ⟨(.some 45), (.some (34, true)), (.plain (.binI .eql (.t 39) (.t 44)))⟩ :: ⟨(.some 46), .none, (.plain (.pick (.t 34) (.t 45) (.c (.bool false))))⟩ :: []
def Q24_36_1 : List AOp := ⟨(.some 37), (.some (34, true)), (.plain (.binI .add (.t 36) (.c (.int .i64 1))))⟩ :: ⟨(.some 38), (.some (34, true)), (.plain (.iaddrL 1 (.t 35) (.t 37)))⟩ :: ⟨(.some 39), (.some (34, true)), (.plain (.load1 (.t 38)))⟩ :: ⟨(.some 40), (.some (34, true)), (.plain (.mv (.t 5)))⟩ :: ⟨(.some 41), (.some (34, true)), (.plain (.mv (.t 7)))⟩ :: ⟨(.some 42), (.some (34, true)), (.plain (.iaddrL 1 (.t 40) (.t 41)))⟩ :: ⟨(.some 43), (.some (34, true)), (.plain (.load1 (.t 42)))⟩ :: ⟨(.some 44), (.some (34, true)), (.plain (.binI .add (.t 43) (.c (.int .u8 1))))⟩ :: Q24_36_2
def Q24_36 : List AOp := ⟨(.some 29), .none, (.plain (.mv (.t 7)))⟩ :: ⟨(.some 30), .none, (.plain (.binI .add (.t 29) (.c (.int .i64 1))))⟩ :: ⟨(.some 31), .none, (.plain (.mv (.t 5)))⟩ :: ⟨(.some 32), .none, (.plain (.len (.t 31)))⟩ :: ⟨(.some 33), .none, (.plain (.binI .lss (.t 30) (.t 32)))⟩ :: ⟨(.some 34), .none, (.plain (.mv (.t 33)))⟩ :: ⟨(.some 35), (.some (34, true)), (.plain (.mv (.t 5)))⟩ :: ⟨(.some 36), (.some (34, true)), (.plain (.mv (.t 7)))⟩ :: Q24_36_1
def S24_36 : List AOp := []
def C24_36 : ACode := .draw [] 0 0 Q24_36 S24_36
def C24_38 : ACode := .skip
def C24_39 : ACode := .exit 2
def C24_37 : ACode := .cond (.t 46) C24_38 C24_39
def C24_35 : ACode := .seq C24_36 C24_37
def O24_41 : List AOp := [⟨(.some 47), .none, (.plain (.mv (.t 7)))⟩, ⟨(.some 48), .none, (.plain (.binI .add (.t 47) (.c (.int .i64 1))))⟩, ⟨(.some 7), .none, (.plain (.mv (.t 48)))⟩]
def C24_41 : ACode := .ops O24_41
def C24_40 : ACode := .block 3 C24_41
def C24_34 : ACode := .seq C24_35 C24_40
def C24_33 : ACode := .loop C24_34
def C24_32 : ACode := .block 2 C24_33
def O24_44 : List AOp := [⟨(.some 49), .none, (.plain (.mv (.t 7)))⟩, ⟨(.some 50), .none, (.plain (.mv (.t 6)))⟩, ⟨(.some 51), .none, (.plain (.binI .sub (.t 49) (.t 50)))⟩]
def C24_44 : ACode := .ops O24_44
def O24_47 : List AOp := [⟨(.some 67), .none, (.plain (.binI .eql (.t 51) (.c (.int .i64 0))))⟩, ⟨(.some 66), .none, (.plain (.mv (.t 67)))⟩]
def C24_47 : ACode := .ops O24_47
def O24_49 : List AOp := [⟨(.some 68), .none, (.plain (.mv (.t 3)))⟩, ⟨(.some 69), .none, (.plain (.mv (.t 5)))⟩, ⟨(.some 70), .none, (.plain (.mv (.t 6)))⟩, ⟨(.some 71), .none, (.plain (.iaddrL 1 (.t 69) (.t 70)))⟩, ⟨(.some 72), .none, (.plain (.load1 (.t 71)))⟩, ⟨(.some 73), .none, (.call 41 [(.t 72)])⟩, ⟨(.some 74), .none, (.plain (.binS .add (.t 68) (.t 73)))⟩, ⟨(.some 3), .none, (.plain (.mv (.t 74)))⟩]
def C24_49 : ACode := .ops O24_49
def O24_51 : List AOp := [⟨(.some 76), .none, (.plain (.binI .eql (.t 51) (.c (.int .i64 1))))⟩, ⟨(.some 75), .none, (.plain (.mv (.t 76)))⟩]
def C24_51 : ACode := .ops O24_51
def Q24_53_1 : List AOp := ⟨(.some 85), .none, (.plain (.iaddrL 1 (.t 83) (.t 84)))⟩ :: ⟨(.some 86), .none, (.plain (.load1 (.t 85)))⟩ :: ⟨(.some 87), .none, (.call 41 [(.t 86)])⟩ :: ⟨(.some 88), .none, (.plain (.binS .add (.t 82) (.t 87)))⟩ :: ⟨(.some 89), .none, (.plain (.binS .add (.t 77) (.t 88)))⟩ :: ⟨(.some 3), .none, (.plain (.mv (.t 89)))⟩ :: []
def Q24_53 : List AOp := ⟨(.some 77), .none, (.plain (.mv (.t 3)))⟩ :: ⟨(.some 78), .none, (.plain (.mv (.t 5)))⟩ :: ⟨(.some 79), .none, (.plain (.mv (.t 6)))⟩ :: ⟨(.some 80), .none, (.plain (.iaddrL 1 (.t 78) (.t 79)))⟩ :: ⟨(.some 81), .none, (.plain (.load1 (.t 80)))⟩ :: ⟨(.some 82), .none, (.call 41 [(.t 81)])⟩ :: ⟨(.some 83), .none, (.plain (.mv (.t 5)))⟩ :: ⟨(.some 84), .none, (.plain (.mv (.t 7)))⟩ :: Q24_53_1
def S24_53 : List AOp := []
def C24_53 : ACode := .draw [] 0 0 Q24_53 S24_53
def Q24_54_1 : List AOp := ⟨(.some 60), .none, (.plain (.mv (.t 7)))⟩ :: ⟨(.some 61), .none, (.plain (.iaddrL 1 (.t 59) (.t 60)))⟩ :: ⟨(.some 62), .none, (.plain (.load1 (.t 61)))⟩ :: ⟨(.some 63), .none, (.call 41 [(.t 62)])⟩ :: ⟨(.some 64), .none, (.plain (.binS .add (.t 58) (.t 63)))⟩ :: ⟨(.some 65), .none, (.plain (.binS .add (.t 52) (.t 64)))⟩ :: ⟨(.some 3), .none, (.plain (.mv (.t 65)))⟩ :: []
def Q24_54 : List AOp := ⟨(.some 52), .none, (.plain (.mv (.t 3)))⟩ :: ⟨(.some 53), .none, (.plain (.mv (.t 5)))⟩ :: ⟨(.some 54), .none, (.plain (.mv (.t 6)))⟩ :: ⟨(.some 55), .none, (.plain (.iaddrL 1 (.t 53) (.t 54)))⟩ :: ⟨(.some 56), .none, (.plain (.load1 (.t 55)))⟩ :: ⟨(.some 57), .none, (.call 41 [(.t 56)])⟩ :: ⟨(.some 58), .none, (.plain (.binS .add (.t 57) (.c (.str [45]))))⟩ :: ⟨(.some 59), .none, (.plain (.mv (.t 5)))⟩ :: Q24_54_1
def S24_54 : List AOp := []
def C24_54 : ACode := .draw [] 0 0 Q24_54 S24_54
def C24_52 : ACode := .cond (.t 75) C24_53 C24_54
def C24_50 : ACode := .seq C24_51 C24_52
def C24_48 : ACode := .cond (.t 66) C24_49 C24_50
def C24_46 : ACode := .seq C24_47 C24_48
def C24_45 : ACode := .block 4 C24_46
def C24_43 : ACode := .seq C24_44 C24_45
def O24_55 : List AOp := [⟨(.some 90), .none, (.plain (.mv (.t 7)))⟩, ⟨(.some 91), .none, (.plain (.binI .add (.t 90) (.c (.int .i64 1))))⟩, ⟨(.some 6), .none, (.plain (.mv (.t 91)))⟩]
def C24_55 : ACode := .ops O24_55
def C24_42 : ACode := .seq C24_43 C24_55
def C24_31 : ACode := .seq C24_32 C24_42
def C24_29 : ACode := .seq C24_30 C24_31
def C24_28 : ACode := .block 1 C24_29
def C24_22 : ACode := .seq C24_23 C24_28
def C24_21 : ACode := .loop C24_22
def C24_20 : ACode := .block 0 C24_21
def C24_18 : ACode := .seq C24_19 C24_20
def O24_57 : List AOp := [⟨(.some 92), .none, (.plain (.mv (.t 3)))⟩, ⟨(.some 93), .none, (.plain (.binS .add (.t 92) (.c (.str [93]))))⟩, ⟨(.some 2), .none, (.plain (.mv (.t 93)))⟩]
def C24_57 : ACode := .ops O24_57
def C24_58 : ACode := .ret
def C24_56 : ACode := .seq C24_57 C24_58
def C24_17 : ACode := .seq C24_18 C24_56
def C24_15 : ACode := .seq C24_16 C24_17
def C24_7 : ACode := .seq C24_8 C24_15
def C24_5 : ACode := .seq C24_6 C24_7
def C24_3 : ACode := .seq C24_4 C24_5
def C24_1 : ACode := .seq C24_2 C24_3
def R24 : List RA := [(.tmp 2)]
theorem k24 : compF Try.prog (muL []) 24 = some ⟨94, C24_1, R24⟩ := by kernel_rfl
noncomputable def X24 (r : Str) : Cx := ⟨Try.prog, noG, 94, muL [], R24, isD (fun x => x = AV.str r)⟩
inductive St24 where
  | p1 (s : Arr 4 Int)
  | p2 (out : Str) (t19 : Bool) (s : Arr 4 Int)
  | p3 (out : Str) (s : Arr 4 Int)
  | p4 (out : Str) (b : Sl Int) (i : Int)
  | p5 (out : Str) (b : Sl Int) (i : Int) (k : Int)
  | p6 (out : Str) (b : Sl Int) (i : Int) (k : Int)
noncomputable def G24 : St24 → Option Str
  | .p1 s =>
    (F29 s >>= fun r11 =>
      (G24 (.p3 ([94] : Str) r11)))
  | .p2 out t19 s =>
    (if t19 = true then
      (G24 (.p1 s))
    else
      (G24 (.p3 out s)))
  | .p3 out s =>
    (F15 s >>= fun r17 =>
      (G24 (.p4 out r17 0)))
  | .p4 out b i =>
    (if (decide (i < ((ls b).length : Int))) = true then
      (G24 (.p5 out b i i))
    else
      (if (out).length + (([93] : Str)).length ≤ 9223372036854775807 then
        (some (out ++ ([93] : Str)))
      else none))
  | .p5 out b i k =>
    (if (decide ((IntKind.wrap .i64 (k + 1)) < ((ls b).length : Int))) = true then
      (ix (ls b) (IntKind.wrap .i64 (k + 1)) >>= fun v22 =>
        (ix (ls b) k >>= fun v24 =>
          (if (v22 == (IntKind.wrap .u8 (v24 + 1))) = true then
            (G24 (.p5 out b i (IntKind.wrap .i64 (k + 1))))
          else
            (G24 (.p6 out b i k)))))
    else
      (G24 (.p6 out b i k)))
  | .p6 out b i k =>
    (if ((IntKind.wrap .i64 (k - i)) == 0) = true then
      (ix (ls b) i >>= fun v28 =>
        (F41 v28 >>= fun r30 =>
          (if (out).length + (r30).length ≤ 9223372036854775807 then
            (G24 (.p4 (out ++ r30) b (IntKind.wrap .i64 (k + 1))))
          else none)))
    else
      (if ((IntKind.wrap .i64 (k - i)) == 1) = true then
        (ix (ls b) i >>= fun v34 =>
          (F41 v34 >>= fun r36 =>
            (ix (ls b) k >>= fun v38 =>
              (F41 v38 >>= fun r40 =>
                (if (r36).length + (r40).length ≤ 9223372036854775807 then
                  (if (out).length + (r36 ++ r40).length ≤ 9223372036854775807 then
                    (G24 (.p4 (out ++ (r36 ++ r40)) b (IntKind.wrap .i64 (k + 1))))
                  else none)
                else none)))))
      else
        (ix (ls b) i >>= fun v44 =>
          (F41 v44 >>= fun r46 =>
            (if (r46).length + (([45] : Str)).length ≤ 9223372036854775807 then
              (ix (ls b) k >>= fun v49 =>
                (F41 v49 >>= fun r51 =>
                  (if (r46 ++ ([45] : Str)).length + (r51).length ≤ 9223372036854775807 then
                    (if (out).length + ((r46 ++ ([45] : Str)) ++ r51).length ≤ 9223372036854775807 then
                      (G24 (.p4 (out ++ ((r46 ++ ([45] : Str)) ++ r51)) b (IntKind.wrap .i64 (k + 1))))
                    else none)
                  else none)))
            else none)))))
  partial_fixpoint
def M24 (x : St24) (r : Str) : Prop := match x with
  | .p1 s => ∀ (tm : Fr) (st : Store) (i0 : Nat), tm 1 = .ptr i0 0 → st[i0]? = some (.cells (c24 s)) → At (X24 r) C24_11 [.seq C24_15] tm st
  | .p2 out t19 s => ∀ (tm : Fr) (st : Store) (i0 : Nat), tm 1 = .ptr i0 0 → tm 3 = AV.str out → tm 19 = AV.bool t19 → st[i0]? = some (.cells (c24 s)) → At (X24 r) C24_10 [.seq C24_15] tm st
  | .p3 out s => ∀ (tm : Fr) (st : Store) (i0 : Nat), tm 1 = .ptr i0 0 → tm 3 = AV.str out → st[i0]? = some (.cells (c24 s)) → At (X24 r) C24_15 [] tm st
  | .p4 out b i => ∀ (tm : Fr) (st : Store), tm 3 = AV.str out → tm 5 = slV 1 (AV.int .u8) b → tm 6 = AV.int .i64 i → AtL (X24 r) C24_22 [.blk 0, .seq C24_56] tm st
  | .p5 out b i k => ∀ (tm : Fr) (st : Store), tm 3 = AV.str out → tm 5 = slV 1 (AV.int .u8) b → tm 6 = AV.int .i64 i → tm 7 = AV.int .i64 k → AtL (X24 r) C24_34 [.blk 2, .seq C24_42, .blk 1, .lp C24_22, .blk 0, .seq C24_56] tm st
  | .p6 out b i k => ∀ (tm : Fr) (st : Store), tm 3 = AV.str out → tm 5 = slV 1 (AV.int .u8) b → tm 6 = AV.int .i64 i → tm 7 = AV.int .i64 k → At (X24 r) C24_42 [.blk 1, .lp C24_22, .blk 0, .seq C24_56] tm st
theorem w24 : ∀ (x : St24) (r : Str), G24 x = some r → M24 x r := by
  refine G24.partial_correctness M24 ?_
  intro g ih x r hF
  cases x with
  | p1 s =>
    dsimp only at hF
    intro tm st i0 h1 o0
    refine at_seq (a := C24_12) (b := C24_13) ?_
    refine at_ops (l := O24_12) ?_
    refine xo (e_mv' (v := AV.str ([94] : Str)) rfl) ?_
    refine ato_nil ?_
    refine atn_seq ?_
    refine at_ops (l := O24_13) ?_
    refine xo (e_loadN h1 o0 (LR.whole _ _) (c24_len _)) ?_
    obtain ⟨r11, g12, hF⟩ := bind_some hF
    refine xo_dfun' (d29 s _ g12) (dsl_cons (ds_eq rfl (ds_agg (c24_ds _))) dsl_nil) ?_
    refine xo_store h1 o0 (LR.whole _ _) (c24_len _) rfl rfl (c24_len _) (c24_one _) fun s13 o14 k15 => ?_
    refine ato_nil ?_
    refine atn_seq ?_
    exact ih (.p3 ([94] : Str) r11) _ hF _ _ _ h1 rfl o14
  | p2 out t19 s =>
    dsimp only at hF
    intro tm st i0 h1 h3 h19 o0
    refine at_cond (x := C24_11) (y := C24_14) h19 (fun c16 => ?_) (fun c16 => ?_)
    · have hF := ite_t c16 hF
      exact ih (.p1 s) _ hF _ _ _ h1 o0
    · have hF := ite_f c16 hF
      refine at_skip ?_
      refine atn_seq ?_
      exact ih (.p3 out s) _ hF _ _ _ h1 h3 o0
  | p3 out s =>
    dsimp only at hF
    intro tm st i0 h1 h3 o0
    refine at_seq (a := C24_16) (b := C24_17) ?_
    refine at_ops (l := O24_16) ?_
    refine xo (e_loadN h1 o0 (LR.whole _ _) (c24_len _)) ?_
    obtain ⟨r17, g18, hF⟩ := bind_some hF
    refine xo_dfun' (d15 s _ g18) (dsl_cons (ds_eq rfl (ds_agg (c24_ds _))) dsl_nil) ?_
    refine xo (e_mv' (v := slV 1 (AV.int .u8) r17) rfl) ?_
    refine ato_nil ?_
    refine atn_seq ?_
    refine at_seq (a := C24_18) (b := C24_56) ?_
    refine at_seq (a := C24_19) (b := C24_20) ?_
    refine at_ops (l := O24_19) ?_
    refine xo (e_mv' (v := AV.int .i64 0) rfl) ?_
    refine ato_nil ?_
    refine atn_seq ?_
    refine at_block (x := C24_21) ?_
    refine at_loop (b := C24_22) ?_
    exact ih (.p4 out r17 0) _ hF _ _ h3 rfl rfl
  | p4 out b i =>
    dsimp only at hF
    intro tm st h3 h5 h6
    refine atl_once ?_
    refine at_seq (a := C24_23) (b := C24_28) ?_
    refine at_seq (a := C24_24) (b := C24_25) ?_
    refine at_ops (l := O24_24) ?_
    refine xo (e_mv' (v := AV.int .i64 i) h6) ?_
    refine xo (e_mv' (v := slV 1 (AV.int .u8) b) h5) ?_
    refine xo (e_len (rd_V rfl)) ?_
    refine xo (e_bin (v := .bool (decide (i < ((ls b).length : Int)))) rfl rfl rfl) ?_
    refine ato_nil ?_
    refine atn_seq ?_
    refine at_cond (x := C24_26) (y := C24_27) rfl (fun c19 => ?_) (fun c19 => ?_)
    · have hF := ite_t c19 hF
      refine at_skip ?_
      refine atn_seq ?_
      refine at_block (x := C24_29) ?_
      refine at_seq (a := C24_30) (b := C24_31) ?_
      refine at_ops (l := O24_30) ?_
      refine xo (e_mv' (v := AV.int .i64 i) h6) ?_
      refine xo (e_mv' (v := AV.int .i64 i) rfl) ?_
      refine ato_nil ?_
      refine atn_seq ?_
      refine at_seq (a := C24_32) (b := C24_42) ?_
      refine at_block (x := C24_33) ?_
      refine at_loop (b := C24_34) ?_
      exact ih (.p5 out b i i) _ hF _ _ h3 h5 h6 rfl
    · have hF := ite_f c19 hF
      refine at_exit ?_
      refine atx (k' := [.seq C24_56]) rfl ?_
      refine atn_seq ?_
      refine at_seq (a := C24_57) (b := C24_58) ?_
      refine at_ops (l := O24_57) ?_
      refine xo (e_mv' (v := AV.str out) h3) ?_
      obtain ⟨g20, hF⟩ := grd_some hF
      refine xo (e_str rfl rfl (op_cat _ _ g20)) ?_
      refine xo (e_mv' (v := AV.str (out ++ ([93] : Str))) rfl) ?_
      refine ato_nil ?_
      refine atn_seq ?_
      refine at_ret ?_
      cases hF
      exact atr (rl_tmp rfl rl_nil) (isd (ds_eq rfl ds_s))
  | p5 out b i k =>
    dsimp only at hF
    intro tm st h3 h5 h6 h7
    refine atl_once ?_
    refine at_seq (a := C24_35) (b := C24_40) ?_
    refine at_seq (a := C24_36) (b := C24_37) ?_
    refine at_draw0 (q := Q24_36) (suf := S24_36) ?_
    refine xd rfl (e_mv' (v := AV.int .i64 k) h7) ?_
    refine xd rfl (e_bin (v := .int .i64 (IntKind.wrap .i64 (k + 1))) rfl rfl rfl) ?_
    refine xd rfl (e_mv' (v := slV 1 (AV.int .u8) b) h5) ?_
    refine xd rfl (e_len (rd_V rfl)) ?_
    refine xd rfl (e_bin (v := .bool (decide ((IntKind.wrap .i64 (k + 1)) < ((ls b).length : Int)))) rfl rfl rfl) ?_
    refine xd rfl (e_mv' (v := AV.bool (decide ((IntKind.wrap .i64 (k + 1)) < ((ls b).length : Int)))) rfl) ?_
    refine bsplit (b := decide ((IntKind.wrap .i64 (k + 1)) < ((ls b).length : Int))) (fun c21 => ?_) (fun c21 => ?_)
    · have hF := ite_t c21 hF
      refine xd_on rfl c21 ?_
      refine xd rfl (e_mv' (v := slV 1 (AV.int .u8) b) h5) ?_
      refine xd_on rfl c21 ?_
      refine xd rfl (e_mv' (v := AV.int .i64 k) h7) ?_
      refine xd_on rfl c21 ?_
      refine xd rfl (e_bin (v := .int .i64 (IntKind.wrap .i64 (k + 1))) rfl rfl rfl) ?_
      obtain ⟨v22, g23, hF⟩ := bind_some hF
      refine xd_on rfl c21 ?_
      refine xd rfl (e_iaddrL (rd_V rfl) rfl g23) ?_
      refine xd_on rfl c21 ?_
      refine xd rfl (e_load1D (show _ = AV.dptr ((cI .u8) v22) from rfl) (DP.refl _)) ?_
      refine xd_on rfl c21 ?_
      refine xd rfl (e_mv' (v := slV 1 (AV.int .u8) b) h5) ?_
      refine xd_on rfl c21 ?_
      refine xd rfl (e_mv' (v := AV.int .i64 k) h7) ?_
      obtain ⟨v24, g25, hF⟩ := bind_some hF
      refine xd_on rfl c21 ?_
      refine xd rfl (e_iaddrL (rd_V rfl) rfl g25) ?_
      refine xd_on rfl c21 ?_
      refine xd rfl (e_load1D (show _ = AV.dptr ((cI .u8) v24) from rfl) (DP.refl _)) ?_
      refine xd_on rfl c21 ?_
      refine xd rfl (e_bin (v := .int .u8 (IntKind.wrap .u8 (v24 + 1))) rfl rfl rfl) ?_
      refine xd_on rfl c21 ?_
      refine xd rfl (e_bin (v := .bool ((v22 == (IntKind.wrap .u8 (v24 + 1))))) rfl rfl rfl) ?_
      refine xd rfl (e_pick_t (v := AV.bool (v22 == (IntKind.wrap .u8 (v24 + 1)))) rfl c21 rfl) ?_
      refine atd_nil ?_
      refine ato_nil ?_
      refine atn_seq ?_
      refine at_cond (x := C24_38) (y := C24_39) rfl (fun c26 => ?_) (fun c26 => ?_)
      · have hF := ite_t c26 hF
        refine at_skip ?_
        refine atn_seq ?_
        refine at_block (x := C24_41) ?_
        refine at_ops (l := O24_41) ?_
        refine xo (e_mv' (v := AV.int .i64 k) h7) ?_
        refine xo (e_bin (v := .int .i64 (IntKind.wrap .i64 (k + 1))) rfl rfl rfl) ?_
        refine xo (e_mv' (v := AV.int .i64 (IntKind.wrap .i64 (k + 1))) rfl) ?_
        refine ato_nil ?_
        refine atn_blk ?_
        refine atn_lp ?_
        exact ih (.p5 out b i (IntKind.wrap .i64 (k + 1))) _ hF _ _ h3 h5 h6 rfl
      · have hF := ite_f c26 hF
        refine at_exit ?_
        refine atx (k' := [.seq C24_42, .blk 1, .lp C24_22, .blk 0, .seq C24_56]) rfl ?_
        refine atn_seq ?_
        exact ih (.p6 out b i k) _ hF _ _ h3 h5 h6 h7
    · have hF := ite_f c21 hF
      refine xd_off rfl c21 rfl ?_
      refine xd_off rfl c21 rfl ?_
      refine xd_off rfl c21 rfl ?_
      refine xd_off rfl c21 rfl ?_
      refine xd_off rfl c21 rfl ?_
      refine xd_off rfl c21 rfl ?_
      refine xd_off rfl c21 rfl ?_
      refine xd_off rfl c21 rfl ?_
      refine xd_off rfl c21 rfl ?_
      refine xd_off rfl c21 rfl ?_
      refine xd_off rfl c21 rfl ?_
      refine xd rfl (e_pick_f (v := AV.bool false) rfl c21 rfl) ?_
      refine atd_nil ?_
      refine ato_nil ?_
      refine atn_seq ?_
      refine at_cond_f (x := C24_38) (y := C24_39) rfl rfl ?_
      refine at_exit ?_
      refine atx (k' := [.seq C24_42, .blk 1, .lp C24_22, .blk 0, .seq C24_56]) rfl ?_
      refine atn_seq ?_
      exact ih (.p6 out b i k) _ hF _ _ h3 h5 h6 h7
  | p6 out b i k =>
    dsimp only at hF
    intro tm st h3 h5 h6 h7
    refine at_seq (a := C24_43) (b := C24_55) ?_
    refine at_seq (a := C24_44) (b := C24_45) ?_
    refine at_ops (l := O24_44) ?_
    refine xo (e_mv' (v := AV.int .i64 k) h7) ?_
    refine xo (e_mv' (v := AV.int .i64 i) h6) ?_
    refine xo (e_bin (v := .int .i64 (IntKind.wrap .i64 (k - i))) rfl rfl rfl) ?_
    refine ato_nil ?_
    refine atn_seq ?_
    refine at_block (x := C24_46) ?_
    refine at_seq (a := C24_47) (b := C24_48) ?_
    refine at_ops (l := O24_47) ?_
    refine xo (e_bin (v := .bool (((IntKind.wrap .i64 (k - i)) == 0))) rfl rfl rfl) ?_
    refine xo (e_mv' (v := AV.bool ((IntKind.wrap .i64 (k - i)) == 0)) rfl) ?_
    refine ato_nil ?_
    refine atn_seq ?_
    refine at_cond (x := C24_49) (y := C24_50) rfl (fun c27 => ?_) (fun c27 => ?_)
    · have hF := ite_t c27 hF
      refine at_ops (l := O24_49) ?_
      refine xo (e_mv' (v := AV.str out) h3) ?_
      refine xo (e_mv' (v := slV 1 (AV.int .u8) b) h5) ?_
      refine xo (e_mv' (v := AV.int .i64 i) h6) ?_
      obtain ⟨v28, g29, hF⟩ := bind_some hF
      refine xo (e_iaddrL (rd_V rfl) rfl g29) ?_
      refine xo (e_load1D (show _ = AV.dptr ((cI .u8) v28) from rfl) (DP.refl _)) ?_
      obtain ⟨r30, g31, hF⟩ := bind_some hF
      refine xo_dfun' (d41 v28 _ g31) (dsl_cons (ds_eq rfl ds_i) dsl_nil) ?_
      obtain ⟨g32, hF⟩ := grd_some hF
      refine xo (e_str rfl rfl (op_cat _ _ g32)) ?_
      refine xo (e_mv' (v := AV.str (out ++ r30)) rfl) ?_
      refine ato_nil ?_
      refine atn_blk ?_
      refine atn_seq ?_
      refine at_ops (l := O24_55) ?_
      refine xo (e_mv' (v := AV.int .i64 k) h7) ?_
      refine xo (e_bin (v := .int .i64 (IntKind.wrap .i64 (k + 1))) rfl rfl rfl) ?_
      refine xo (e_mv' (v := AV.int .i64 (IntKind.wrap .i64 (k + 1))) rfl) ?_
      refine ato_nil ?_
      refine atn_blk ?_
      refine atn_lp ?_
      exact ih (.p4 (out ++ r30) b (IntKind.wrap .i64 (k + 1))) _ hF _ _ rfl h5 rfl
    · have hF := ite_f c27 hF
      refine at_seq (a := C24_51) (b := C24_52) ?_
      refine at_ops (l := O24_51) ?_
      refine xo (e_bin (v := .bool (((IntKind.wrap .i64 (k - i)) == 1))) rfl rfl rfl) ?_
      refine xo (e_mv' (v := AV.bool ((IntKind.wrap .i64 (k - i)) == 1)) rfl) ?_
      refine ato_nil ?_
      refine atn_seq ?_
      refine at_cond (x := C24_53) (y := C24_54) rfl (fun c33 => ?_) (fun c33 => ?_)
      · have hF := ite_t c33 hF
        refine at_draw0 (q := Q24_53) (suf := S24_53) ?_
        refine xd rfl (e_mv' (v := AV.str out) h3) ?_
        refine xd rfl (e_mv' (v := slV 1 (AV.int .u8) b) h5) ?_
        refine xd rfl (e_mv' (v := AV.int .i64 i) h6) ?_
        obtain ⟨v34, g35, hF⟩ := bind_some hF
        refine xd rfl (e_iaddrL (rd_V rfl) rfl g35) ?_
        refine xd rfl (e_load1D (show _ = AV.dptr ((cI .u8) v34) from rfl) (DP.refl _)) ?_
        obtain ⟨r36, g37, hF⟩ := bind_some hF
        refine xd_dfun' (d41 v34 _ g37) (dsl_cons (ds_eq rfl ds_i) dsl_nil) ?_
        refine xd rfl (e_mv' (v := slV 1 (AV.int .u8) b) h5) ?_
        refine xd rfl (e_mv' (v := AV.int .i64 k) h7) ?_
        obtain ⟨v38, g39, hF⟩ := bind_some hF
        refine xd rfl (e_iaddrL (rd_V rfl) rfl g39) ?_
        refine xd rfl (e_load1D (show _ = AV.dptr ((cI .u8) v38) from rfl) (DP.refl _)) ?_
        obtain ⟨r40, g41, hF⟩ := bind_some hF
        refine xd_dfun' (d41 v38 _ g41) (dsl_cons (ds_eq rfl ds_i) dsl_nil) ?_
        obtain ⟨g42, hF⟩ := grd_some hF
        refine xd rfl (e_str rfl rfl (op_cat _ _ g42)) ?_
        obtain ⟨g43, hF⟩ := grd_some hF
        refine xd rfl (e_str rfl rfl (op_cat _ _ g43)) ?_
        refine xd rfl (e_mv' (v := AV.str (out ++ (r36 ++ r40))) rfl) ?_
        refine atd_nil ?_
        refine ato_nil ?_
        refine atn_blk ?_
        refine atn_seq ?_
        refine at_ops (l := O24_55) ?_
        refine xo (e_mv' (v := AV.int .i64 k) h7) ?_
        refine xo (e_bin (v := .int .i64 (IntKind.wrap .i64 (k + 1))) rfl rfl rfl) ?_
        refine xo (e_mv' (v := AV.int .i64 (IntKind.wrap .i64 (k + 1))) rfl) ?_
        refine ato_nil ?_
        refine atn_blk ?_
        refine atn_lp ?_
        exact ih (.p4 (out ++ (r36 ++ r40)) b (IntKind.wrap .i64 (k + 1))) _ hF _ _ rfl h5 rfl
      · have hF := ite_f c33 hF
        refine at_draw0 (q := Q24_54) (suf := S24_54) ?_
        refine xd rfl (e_mv' (v := AV.str out) h3) ?_
        refine xd rfl (e_mv' (v := slV 1 (AV.int .u8) b) h5) ?_
        refine xd rfl (e_mv' (v := AV.int .i64 i) h6) ?_
        obtain ⟨v44, g45, hF⟩ := bind_some hF
        refine xd rfl (e_iaddrL (rd_V rfl) rfl g45) ?_
        refine xd rfl (e_load1D (show _ = AV.dptr ((cI .u8) v44) from rfl) (DP.refl _)) ?_
        obtain ⟨r46, g47, hF⟩ := bind_some hF
        refine xd_dfun' (d41 v44 _ g47) (dsl_cons (ds_eq rfl ds_i) dsl_nil) ?_
        obtain ⟨g48, hF⟩ := grd_some hF
        refine xd rfl (e_str rfl rfl (op_cat _ _ g48)) ?_
        refine xd rfl (e_mv' (v := slV 1 (AV.int .u8) b) h5) ?_
        refine xd rfl (e_mv' (v := AV.int .i64 k) h7) ?_
        obtain ⟨v49, g50, hF⟩ := bind_some hF
        refine xd rfl (e_iaddrL (rd_V rfl) rfl g50) ?_
        refine xd rfl (e_load1D (show _ = AV.dptr ((cI .u8) v49) from rfl) (DP.refl _)) ?_
        obtain ⟨r51, g52, hF⟩ := bind_some hF
        refine xd_dfun' (d41 v49 _ g52) (dsl_cons (ds_eq rfl ds_i) dsl_nil) ?_
        obtain ⟨g53, hF⟩ := grd_some hF
        refine xd rfl (e_str rfl rfl (op_cat _ _ g53)) ?_
        obtain ⟨g54, hF⟩ := grd_some hF
        refine xd rfl (e_str rfl rfl (op_cat _ _ g54)) ?_
        refine xd rfl (e_mv' (v := AV.str (out ++ ((r46 ++ ([45] : Str)) ++ r51))) rfl) ?_
        refine atd_nil ?_
        refine ato_nil ?_
        refine atn_blk ?_
        refine atn_seq ?_
        refine at_ops (l := O24_55) ?_
        refine xo (e_mv' (v := AV.int .i64 k) h7) ?_
        refine xo (e_bin (v := .int .i64 (IntKind.wrap .i64 (k + 1))) rfl rfl rfl) ?_
        refine xo (e_mv' (v := AV.int .i64 (IntKind.wrap .i64 (k + 1))) rfl) ?_
        refine ato_nil ?_
        refine atn_blk ?_
        refine atn_lp ?_
        exact ih (.p4 (out ++ ((r46 ++ ([45] : Str)) ++ r51)) b (IntKind.wrap .i64 (k + 1))) _ hF _ _ rfl h5 rfl
noncomputable def F24 (s : Arr 4 Int) : Option Str :=
  (F19 s >>= fun r7 =>
    (if (decide (r7 > 128)) = true then
      (if (decide (r7 < 256)) = true then
        (G24 (.p1 s))
      else
        (G24 (.p2 ([] : Str) (r7 == 0) s)))
    else
      (G24 (.p2 ([] : Str) (r7 == 0) s))))
theorem d24 (s : Arr 4 Int) (r : Str) (hF : F24 s = some r) : DFun Try.prog noG 24 [AV.agg (c24 s)] (AV.str r) := by
  unfold F24 at hF
  refine dfun_at k24 (Nat.le_of_ble_eq_true rfl) ?_
  show At (X24 r) _ _ _ _
  refine at_seq (a := C24_2) (b := C24_3) ?_
  refine at_ops (l := O24_2) ?_
  refine xo_box (cs := c24 s) rfl rfl (c24_len _) fun s2 i3 o4 k5 q6 => ?_
  refine xo (e_mv' (v := AV.str ([] : Str)) rfl) ?_
  refine ato_nil ?_
  refine atn_seq ?_
  refine at_seq (a := C24_4) (b := C24_5) ?_
  refine at_ops (l := O24_4) ?_
  refine xo (e_mv' (v := AV.str ([] : Str)) rfl) ?_
  refine ato_nil ?_
  refine atn_seq ?_
  refine at_seq (a := C24_6) (b := C24_7) ?_
  refine at_ops (l := O24_6) ?_
  refine xo (e_loadN rfl o4 (LR.whole _ _) (c24_len _)) ?_
  obtain ⟨r7, g8, hF⟩ := bind_some hF
  refine xo_dfun' (d19 s _ g8) (dsl_cons (ds_eq rfl (ds_agg (c24_ds _))) dsl_nil) ?_
  refine xo (e_mv' (v := AV.int .i64 r7) rfl) ?_
  refine ato_nil ?_
  refine atn_seq ?_
  refine at_seq (a := C24_8) (b := C24_15) ?_
  refine at_seq (a := C24_9) (b := C24_10) ?_
  refine at_ops (l := O24_9) ?_
  refine xo (e_mv' (v := AV.int .i64 r7) rfl) ?_
  refine xo (e_bin (v := .bool (decide (r7 > 128))) rfl rfl rfl) ?_
  refine xo (e_mv' (v := AV.bool (decide (r7 > 128))) rfl) ?_
  refine bsplit (b := decide (r7 > 128)) (fun c9 => ?_) (fun c9 => ?_)
  · have hF := ite_t c9 hF
    refine xo_on rfl c9 ?_
    refine xo (e_mv' (v := AV.int .i64 r7) rfl) ?_
    refine xo_on rfl c9 ?_
    refine xo (e_bin (v := .bool (decide (r7 < 256))) rfl rfl rfl) ?_
    refine xo (e_pick_t (v := AV.bool (decide (r7 < 256))) rfl c9 rfl) ?_
    refine xo (e_mv' (v := AV.bool (decide (r7 < 256))) rfl) ?_
    refine bsplit (b := decide (r7 < 256)) (fun c10 => ?_) (fun c10 => ?_)
    · have hF := ite_t c10 hF
      refine xo_off rfl c10 ?_
      refine xo_off rfl c10 ?_
      refine xo (e_pick_t (v := AV.bool true) rfl c10 rfl) ?_
      refine ato_nil ?_
      refine atn_seq ?_
      refine at_cond_t (x := C24_11) (y := C24_14) rfl rfl ?_
      exact w24 (.p1 s) _ hF _ _ _ rfl o4
    · have hF := ite_f c10 hF
      refine xo_on rfl c10 ?_
      refine xo (e_mv' (v := AV.int .i64 r7) rfl) ?_
      refine xo_on rfl c10 ?_
      refine xo (e_bin (v := .bool ((r7 == 0))) rfl rfl rfl) ?_
      refine xo (e_pick_f (v := AV.bool (r7 == 0)) rfl c10 rfl) ?_
      refine ato_nil ?_
      refine atn_seq ?_
      exact w24 (.p2 ([] : Str) (r7 == 0) s) _ hF _ _ _ rfl rfl rfl o4
  · have hF := ite_f c9 hF
    refine xo_off rfl c9 ?_
    refine xo_off rfl c9 ?_
    refine xo (e_pick_f (v := AV.bool false) rfl c9 rfl) ?_
    refine xo (e_mv' (v := AV.bool false) rfl) ?_
    refine xo_on rfl rfl ?_
    refine xo (e_mv' (v := AV.int .i64 r7) rfl) ?_
    refine xo_on rfl rfl ?_
    refine xo (e_bin (v := .bool ((r7 == 0))) rfl rfl rfl) ?_
    refine xo (e_pick_f (v := AV.bool (r7 == 0)) rfl rfl rfl) ?_
    refine ato_nil ?_
    refine atn_seq ?_
    exact w24 (.p2 ([] : Str) (r7 == 0) s) _ hF _ _ _ rfl rfl rfl o4
/-! ### 33: paddock/paddockref07.Print -/
def O33_2 : List AOp := [⟨(.some 1), .none, (.plain (.box 4 (.t 0)))⟩, ⟨(.some 2), .none, (.plain (.mv (.c (.str []))))⟩]
def C33_2 : ACode := .ops O33_2
def O33_4 : List AOp := [⟨(.some 3), .none, (.plain (.mv (.c (.str []))))⟩]
def C33_4 : ACode := .ops O33_4
def O33_6 : List AOp := [⟨(.some 7), .none, (.plain (.loadN 4 (.t 1)))⟩, ⟨(.some 8), .none, (.call 16 [(.t 7)])⟩, ⟨(.some 9), .none, (.plain (.len (.t 8)))⟩, ⟨(.some 4), .none, (.plain (.mv (.t 9)))⟩]
def C33_6 : ACode := .ops O33_6
def O33_9_1 : List AOp := ⟨(.some 18), (.some (16, false)), (.plain (.binI .eql (.t 17) (.c (.int .i64 0))))⟩ :: ⟨(.some 19), .none, (.plain (.pick (.t 16) (.c (.bool true)) (.t 18)))⟩ :: []
def O33_9 : List AOp := ⟨(.some 10), .none, (.plain (.mv (.t 4)))⟩ :: ⟨(.some 11), .none, (.plain (.binI .gtr (.t 10) (.c (.int .i64 128))))⟩ :: ⟨(.some 12), .none, (.plain (.mv (.t 11)))⟩ :: ⟨(.some 13), (.some (12, true)), (.plain (.mv (.t 4)))⟩ :: ⟨(.some 14), (.some (12, true)), (.plain (.binI .lss (.t 13) (.c (.int .i64 256))))⟩ :: ⟨(.some 15), .none, (.plain (.pick (.t 12) (.t 14) (.c (.bool false))))⟩ :: ⟨(.some 16), .none, (.plain (.mv (.t 15)))⟩ :: ⟨(.some 17), (.some (16, false)), (.plain (.mv (.t 4)))⟩ :: O33_9_1
def C33_9 : ACode := .ops O33_9
def O33_12 : List AOp := [⟨(.some 3), .none, (.plain (.mv (.c (.str [94]))))⟩]
def C33_12 : ACode := .ops O33_12
def O33_13 : List AOp := [⟨(.some 20), .none, (.plain (.loadN 4 (.t 1)))⟩, ⟨(.some 21), .none, (.call 30 [(.t 20)])⟩, ⟨.none, .none, (.plain (.store 4 (.t 1) (.t 21)))⟩]
def C33_13 : ACode := .ops O33_13
def C33_11 : ACode := .seq C33_12 C33_13
def C33_14 : ACode := .skip
def C33_10 : ACode := .cond (.t 19) C33_11 C33_14
def C33_8 : ACode := .seq C33_9 C33_10
def O33_17 : List AOp := [⟨(.some 5), .none, (.plain (.mv (.c (.int .i64 0))))⟩]
def C33_17 : ACode := .ops O33_17
def O33_22 : List AOp := [⟨(.some 22), .none, (.plain (.mv (.t 5)))⟩, ⟨(.some 23), .none, (.plain (.binI .lss (.t 22) (.c (.int .i64 256))))⟩]
def C33_22 : ACode := .ops O33_22
def C33_24 : ACode := .skip
def C33_25 : ACode := .exit 0
def C33_23 : ACode := .cond (.t 23) C33_24 C33_25
def C33_21 : ACode := .seq C33_22 C33_23
def O33_30 : List AOp := [⟨(.some 26), .none, (.plain (.loadN 4 (.t 1)))⟩, ⟨(.some 27), .none, (.plain (.mv (.t 5)))⟩, ⟨(.some 28), .none, (.plain (.cvI .u8 (.t 27)))⟩, ⟨(.some 29), .none, (.call 18 [(.t 26), (.t 28)])⟩, ⟨(.some 30), .none, (.plain (.un .not (.t 29)))⟩]
def C33_30 : ACode := .ops O33_30
def C33_32 : ACode := .exit 1
def C33_33 : ACode := .skip
def C33_31 : ACode := .cond (.t 30) C33_32 C33_33
def C33_29 : ACode := .seq C33_30 C33_31
def O33_35 : List AOp := [⟨(.some 31), .none, (.plain (.mv (.t 5)))⟩, ⟨(.some 6), .none, (.plain (.mv (.t 31)))⟩]
def C33_35 : ACode := .ops O33_35
def O33_41_1 : List AOp := ⟨(.some 40), .none, (.plain (.pick (.t 34) (.t 39) (.c (.bool false))))⟩ :: []
def O33_41 : List AOp := ⟨(.some 32), .none, (.plain (.mv (.t 5)))⟩ :: ⟨(.some 33), .none, (.plain (.binI .lss (.t 32) (.c (.int .i64 255))))⟩ :: ⟨(.some 34), .none, (.plain (.mv (.t 33)))⟩ :: ⟨(.some 35), (.some (34, true)), (.plain (.loadN 4 (.t 1)))⟩ :: ⟨(.some 36), (.some (34, true)), (.plain (.mv (.t 5)))⟩ :: ⟨(.some 37), (.some (34, true)), (.plain (.binI .add (.t 36) (.c (.int .i64 1))))⟩ :: ⟨(.some 38), (.some (34, true)), (.plain (.cvI .u8 (.t 37)))⟩ :: ⟨(.some 39), (.some (34, true)), (.call 18 [(.t 35), (.t 38)])⟩ :: O33_41_1
def C33_41 : ACode := .ops O33_41
def C33_43 : ACode := .skip
def C33_44 : ACode := .exit 2
def C33_42 : ACode := .cond (.t 40) C33_43 C33_44
def C33_40 : ACode := .seq C33_41 C33_42
def O33_46 : List AOp := [⟨(.some 41), .none, (.plain (.mv (.t 5)))⟩, ⟨(.some 42), .none, (.plain (.binI .add (.t 41) (.c (.int .i64 1))))⟩, ⟨(.some 5), .none, (.plain (.mv (.t 42)))⟩]
def C33_46 : ACode := .ops O33_46
def C33_45 : ACode := .block 3 C33_46
def C33_39 : ACode := .seq C33_40 C33_45
def C33_38 : ACode := .loop C33_39
def C33_37 : ACode := .block 2 C33_38
def O33_48 : List AOp := [⟨(.some 43), .none, (.plain (.mv (.t 3)))⟩, ⟨(.some 44), .none, (.plain (.mv (.t 6)))⟩, ⟨(.some 45), .none, (.plain (.cvI .u8 (.t 44)))⟩, ⟨(.some 46), .none, (.call 43 [(.t 45)])⟩, ⟨(.some 47), .none, (.plain (.binS .add (.t 43) (.t 46)))⟩, ⟨(.some 3), .none, (.plain (.mv (.t 47)))⟩]
def C33_48 : ACode := .ops O33_48
def O33_51 : List AOp := [⟨(.some 48), .none, (.plain (.mv (.t 5)))⟩, ⟨(.some 49), .none, (.plain (.mv (.t 6)))⟩, ⟨(.some 50), .none, (.plain (.binI .add (.t 49) (.c (.int .i64 1))))⟩, ⟨(.some 51), .none, (.plain (.binI .gtr (.t 48) (.t 50)))⟩]
def C33_51 : ACode := .ops O33_51
def O33_53 : List AOp := [⟨(.some 52), .none, (.plain (.mv (.t 3)))⟩, ⟨(.some 53), .none, (.plain (.binS .add (.t 52) (.c (.str [45]))))⟩, ⟨(.some 3), .none, (.plain (.mv (.t 53)))⟩]
def C33_53 : ACode := .ops O33_53
def C33_54 : ACode := .skip
def C33_52 : ACode := .cond (.t 51) C33_53 C33_54
def C33_50 : ACode := .seq C33_51 C33_52
def O33_56 : List AOp := [⟨(.some 54), .none, (.plain (.mv (.t 5)))⟩, ⟨(.some 55), .none, (.plain (.mv (.t 6)))⟩, ⟨(.some 56), .none, (.plain (.binI .gtr (.t 54) (.t 55)))⟩]
def C33_56 : ACode := .ops O33_56
def O33_58 : List AOp := [⟨(.some 57), .none, (.plain (.mv (.t 3)))⟩, ⟨(.some 58), .none, (.plain (.mv (.t 5)))⟩, ⟨(.some 59), .none, (.plain (.cvI .u8 (.t 58)))⟩, ⟨(.some 60), .none, (.call 43 [(.t 59)])⟩, ⟨(.some 61), .none, (.plain (.binS .add (.t 57) (.t 60)))⟩, ⟨(.some 3), .none, (.plain (.mv (.t 61)))⟩]
def C33_58 : ACode := .ops O33_58
def C33_59 : ACode := .skip
def C33_57 : ACode := .cond (.t 56) C33_58 C33_59
def C33_55 : ACode := .seq C33_56 C33_57
def C33_49 : ACode := .seq C33_50 C33_55
def C33_47 : ACode := .seq C33_48 C33_49
def C33_36 : ACode := .seq C33_37 C33_47
def C33_34 : ACode := .seq C33_35 C33_36
def C33_28 : ACode := .seq C33_29 C33_34
def C33_27 : ACode := .block 1 C33_28
def O33_60 : List AOp := [⟨(.some 24), .none, (.plain (.mv (.t 5)))⟩, ⟨(.some 25), .none, (.plain (.binI .add (.t 24) (.c (.int .i64 1))))⟩, ⟨(.some 5), .none, (.plain (.mv (.t 25)))⟩]
def C33_60 : ACode := .ops O33_60
def C33_26 : ACode := .seq C33_27 C33_60
def C33_20 : ACode := .seq C33_21 C33_26
def C33_19 : ACode := .loop C33_20
def C33_18 : ACode := .block 0 C33_19
def C33_16 : ACode := .seq C33_17 C33_18
def O33_62 : List AOp := [⟨(.some 62), .none, (.plain (.mv (.t 3)))⟩, ⟨(.some 63), .none, (.plain (.binS .add (.t 62) (.c (.str [93]))))⟩, ⟨(.some 2), .none, (.plain (.mv (.t 63)))⟩]
def C33_62 : ACode := .ops O33_62
def C33_63 : ACode := .ret
def C33_61 : ACode := .seq C33_62 C33_63
def C33_15 : ACode := .seq C33_16 C33_61
def C33_7 : ACode := .seq C33_8 C33_15
def C33_5 : ACode := .seq C33_6 C33_7
def C33_3 : ACode := .seq C33_4 C33_5
def C33_1 : ACode := .seq C33_2 C33_3
def R33 : List RA := [(.tmp 2)]
theorem k33 : compF Try.prog (muL []) 33 = some ⟨64, C33_1, R33⟩ := by kernel_rfl
noncomputable def X33 (r : Str) : Cx := ⟨Try.prog, noG, 64, muL [], R33, isD (fun x => x = AV.str r)⟩
inductive St33 where
  | p1 (s : Arr 4 Int)
  | p2 (out : Str) (t19 : Bool) (s : Arr 4 Int)
  | p3 (out : Str) (s : Arr 4 Int)
  | p4 (out : Str) (c : Int) (s : Arr 4 Int)
  | p5 (out : Str) (c : Int) (from_ : Int) (s : Arr 4 Int)
  | p6 (out : Str) (c : Int) (from_ : Int) (s : Arr 4 Int)
  | p7 (out : Str) (c : Int) (from_ : Int) (s : Arr 4 Int)
noncomputable def G33 : St33 → Option Str
  | .p1 s =>
    (F30 s >>= fun r11 =>
      (G33 (.p3 ([94] : Str) r11)))
  | .p2 out t19 s =>
    (if t19 = true then
      (G33 (.p1 s))
    else
      (G33 (.p3 out s)))
  | .p3 out s =>
    (G33 (.p4 out 0 s))
  | .p4 out c s =>
    (if (decide (c < 256)) = true then
      (F18 s (IntKind.wrap .u8 c) >>= fun r18 =>
        (if (!r18) = true then
          (G33 (.p4 out (IntKind.wrap .i64 (c + 1)) s))
        else
          (G33 (.p5 out c c s))))
    else
      (if (out).length + (([93] : Str)).length ≤ 9223372036854775807 then
        (some (out ++ ([93] : Str)))
      else none))
  | .p5 out c from_ s =>
    (if (decide (c < 255)) = true then
      (F18 s (IntKind.wrap .u8 (IntKind.wrap .i64 (c + 1))) >>= fun r23 =>
        (if r23 = true then
          (G33 (.p5 out (IntKind.wrap .i64 (c + 1)) from_ s))
        else
          (G33 (.p6 out c from_ s))))
    else
      (G33 (.p6 out c from_ s)))
  | .p6 out c from_ s =>
    (F43 (IntKind.wrap .u8 from_) >>= fun r26 =>
      (if (out).length + (r26).length ≤ 9223372036854775807 then
        (if (decide (c > (IntKind.wrap .i64 (from_ + 1)))) = true then
          (if (out ++ r26).length + (([45] : Str)).length ≤ 9223372036854775807 then
            (G33 (.p7 ((out ++ r26) ++ ([45] : Str)) c from_ s))
          else none)
        else
          (G33 (.p7 (out ++ r26) c from_ s)))
      else none))
  | .p7 out c from_ s =>
    (if (decide (c > from_)) = true then
      (F43 (IntKind.wrap .u8 c) >>= fun r32 =>
        (if (out).length + (r32).length ≤ 9223372036854775807 then
          (G33 (.p4 (out ++ r32) (IntKind.wrap .i64 (c + 1)) s))
        else none))
    else
      (G33 (.p4 out (IntKind.wrap .i64 (c + 1)) s)))
  partial_fixpoint
def M33 (x : St33) (r : Str) : Prop := match x with
  | .p1 s => ∀ (tm : Fr) (st : Store) (i0 : Nat), tm 1 = .ptr i0 0 → st[i0]? = some (.cells (c24 s)) → At (X33 r) C33_11 [.seq C33_15] tm st
  | .p2 out t19 s => ∀ (tm : Fr) (st : Store) (i0 : Nat), tm 1 = .ptr i0 0 → tm 3 = AV.str out → tm 19 = AV.bool t19 → st[i0]? = some (.cells (c24 s)) → At (X33 r) C33_10 [.seq C33_15] tm st
  | .p3 out s => ∀ (tm : Fr) (st : Store) (i0 : Nat), tm 1 = .ptr i0 0 → tm 3 = AV.str out → st[i0]? = some (.cells (c24 s)) → At (X33 r) C33_15 [] tm st
  | .p4 out c s => ∀ (tm : Fr) (st : Store) (i0 : Nat), tm 1 = .ptr i0 0 → tm 3 = AV.str out → tm 5 = AV.int .i64 c → st[i0]? = some (.cells (c24 s)) → AtL (X33 r) C33_20 [.blk 0, .seq C33_61] tm st
  | .p5 out c from_ s => ∀ (tm : Fr) (st : Store) (i0 : Nat), tm 1 = .ptr i0 0 → tm 3 = AV.str out → tm 5 = AV.int .i64 c → tm 6 = AV.int .i64 from_ → st[i0]? = some (.cells (c24 s)) → AtL (X33 r) C33_39 [.blk 2, .seq C33_47, .blk 1, .seq C33_60, .lp C33_20, .blk 0, .seq C33_61] tm st
  | .p6 out c from_ s => ∀ (tm : Fr) (st : Store) (i0 : Nat), tm 1 = .ptr i0 0 → tm 3 = AV.str out → tm 5 = AV.int .i64 c → tm 6 = AV.int .i64 from_ → st[i0]? = some (.cells (c24 s)) → At (X33 r) C33_47 [.blk 1, .seq C33_60, .lp C33_20, .blk 0, .seq C33_61] tm st
  | .p7 out c from_ s => ∀ (tm : Fr) (st : Store) (i0 : Nat), tm 1 = .ptr i0 0 → tm 3 = AV.str out → tm 5 = AV.int .i64 c → tm 6 = AV.int .i64 from_ → st[i0]? = some (.cells (c24 s)) → At (X33 r) C33_55 [.blk 1, .seq C33_60, .lp C33_20, .blk 0, .seq C33_61] tm st
theorem w33 : ∀ (x : St33) (r : Str), G33 x = some r → M33 x r := by
  refine G33.partial_correctness M33 ?_
  intro g ih x r hF
  cases x with
  | p1 s =>
    dsimp only at hF
    intro tm st i0 h1 o0
    refine at_seq (a := C33_12) (b := C33_13) ?_
    refine at_ops (l := O33_12) ?_
    refine xo (e_mv' (v := AV.str ([94] : Str)) rfl) ?_
    refine ato_nil ?_
    refine atn_seq ?_
    refine at_ops (l := O33_13) ?_
    refine xo (e_loadN h1 o0 (LR.whole _ _) (c24_len _)) ?_
    obtain ⟨r11, g12, hF⟩ := bind_some hF
    refine xo_dfun' (d30 s _ g12) (dsl_cons (ds_eq rfl (ds_agg (c24_ds _))) dsl_nil) ?_
    refine xo_store h1 o0 (LR.whole _ _) (c24_len _) rfl rfl (c24_len _) (c24_one _) fun s13 o14 k15 => ?_
    refine ato_nil ?_
    refine atn_seq ?_
    exact ih (.p3 ([94] : Str) r11) _ hF _ _ _ h1 rfl o14
  | p2 out t19 s =>
    dsimp only at hF
    intro tm st i0 h1 h3 h19 o0
    refine at_cond (x := C33_11) (y := C33_14) h19 (fun c16 => ?_) (fun c16 => ?_)
    · have hF := ite_t c16 hF
      exact ih (.p1 s) _ hF _ _ _ h1 o0
    · have hF := ite_f c16 hF
      refine at_skip ?_
      refine atn_seq ?_
      exact ih (.p3 out s) _ hF _ _ _ h1 h3 o0
  | p3 out s =>
    dsimp only at hF
    intro tm st i0 h1 h3 o0
    refine at_seq (a := C33_16) (b := C33_61) ?_
    refine at_seq (a := C33_17) (b := C33_18) ?_
    refine at_ops (l := O33_17) ?_
    refine xo (e_mv' (v := AV.int .i64 0) rfl) ?_
    refine ato_nil ?_
    refine atn_seq ?_
    refine at_block (x := C33_19) ?_
    refine at_loop (b := C33_20) ?_
    exact ih (.p4 out 0 s) _ hF _ _ _ h1 h3 rfl o0
  | p4 out c s =>
    dsimp only at hF
    intro tm st i0 h1 h3 h5 o0
    refine atl_once ?_
    refine at_seq (a := C33_21) (b := C33_26) ?_
    refine at_seq (a := C33_22) (b := C33_23) ?_
    refine at_ops (l := O33_22) ?_
    refine xo (e_mv' (v := AV.int .i64 c) h5) ?_
    refine xo (e_bin (v := .bool (decide (c < 256))) rfl rfl rfl) ?_
    refine ato_nil ?_
    refine atn_seq ?_
    refine at_cond (x := C33_24) (y := C33_25) rfl (fun c17 => ?_) (fun c17 => ?_)
    · have hF := ite_t c17 hF
      refine at_skip ?_
      refine atn_seq ?_
      refine at_seq (a := C33_27) (b := C33_60) ?_
      refine at_block (x := C33_28) ?_
      refine at_seq (a := C33_29) (b := C33_34) ?_
      refine at_seq (a := C33_30) (b := C33_31) ?_
      refine at_ops (l := O33_30) ?_
      refine xo (e_loadN h1 o0 (LR.whole _ _) (c24_len _)) ?_
      refine xo (e_mv' (v := AV.int .i64 c) h5) ?_
      refine xo (e_cvI rfl) ?_
      obtain ⟨r18, g19, hF⟩ := bind_some hF
      refine xo_dfun' (d18 s (IntKind.wrap .u8 c) _ g19) (dsl_cons (ds_eq rfl (ds_agg (c24_ds _))) (dsl_cons (ds_eq rfl ds_i) dsl_nil)) ?_
      refine xo (e_not rfl) ?_
      refine ato_nil ?_
      refine atn_seq ?_
      refine at_cond (x := C33_32) (y := C33_33) rfl (fun c20 => ?_) (fun c20 => ?_)
      · have hF := ite_t c20 hF
        refine at_exit ?_
        refine atx (k' := [.seq C33_60, .lp C33_20, .blk 0, .seq C33_61]) rfl ?_
        refine atn_seq ?_
        refine at_ops (l := O33_60) ?_
        refine xo (e_mv' (v := AV.int .i64 c) h5) ?_
        refine xo (e_bin (v := .int .i64 (IntKind.wrap .i64 (c + 1))) rfl rfl rfl) ?_
        refine xo (e_mv' (v := AV.int .i64 (IntKind.wrap .i64 (c + 1))) rfl) ?_
        refine ato_nil ?_
        refine atn_lp ?_
        exact ih (.p4 out (IntKind.wrap .i64 (c + 1)) s) _ hF _ _ _ h1 h3 rfl o0
      · have hF := ite_f c20 hF
        refine at_skip ?_
        refine atn_seq ?_
        refine at_seq (a := C33_35) (b := C33_36) ?_
        refine at_ops (l := O33_35) ?_
        refine xo (e_mv' (v := AV.int .i64 c) h5) ?_
        refine xo (e_mv' (v := AV.int .i64 c) rfl) ?_
        refine ato_nil ?_
        refine atn_seq ?_
        refine at_seq (a := C33_37) (b := C33_47) ?_
        refine at_block (x := C33_38) ?_
        refine at_loop (b := C33_39) ?_
        exact ih (.p5 out c c s) _ hF _ _ _ h1 h3 h5 rfl o0
    · have hF := ite_f c17 hF
      refine at_exit ?_
      refine atx (k' := [.seq C33_61]) rfl ?_
      refine atn_seq ?_
      refine at_seq (a := C33_62) (b := C33_63) ?_
      refine at_ops (l := O33_62) ?_
      refine xo (e_mv' (v := AV.str out) h3) ?_
      obtain ⟨g21, hF⟩ := grd_some hF
      refine xo (e_str rfl rfl (op_cat _ _ g21)) ?_
      refine xo (e_mv' (v := AV.str (out ++ ([93] : Str))) rfl) ?_
      refine ato_nil ?_
      refine atn_seq ?_
      refine at_ret ?_
      cases hF
      exact atr (rl_tmp rfl rl_nil) (isd (ds_eq rfl ds_s))
  | p5 out c from_ s =>
    dsimp only at hF
    intro tm st i0 h1 h3 h5 h6 o0
    refine atl_once ?_
    refine at_seq (a := C33_40) (b := C33_45) ?_
    refine at_seq (a := C33_41) (b := C33_42) ?_
    refine at_ops (l := O33_41) ?_
    refine xo (e_mv' (v := AV.int .i64 c) h5) ?_
    refine xo (e_bin (v := .bool (decide (c < 255))) rfl rfl rfl) ?_
    refine xo (e_mv' (v := AV.bool (decide (c < 255))) rfl) ?_
    refine bsplit (b := decide (c < 255)) (fun c22 => ?_) (fun c22 => ?_)
    · have hF := ite_t c22 hF
      refine xo_on rfl c22 ?_
      refine xo (e_loadN h1 o0 (LR.whole _ _) (c24_len _)) ?_
      refine xo_on rfl c22 ?_
      refine xo (e_mv' (v := AV.int .i64 c) h5) ?_
      refine xo_on rfl c22 ?_
      refine xo (e_bin (v := .int .i64 (IntKind.wrap .i64 (c + 1))) rfl rfl rfl) ?_
      refine xo_on rfl c22 ?_
      refine xo (e_cvI rfl) ?_
      obtain ⟨r23, g24, hF⟩ := bind_some hF
      refine xo_on rfl c22 ?_
      refine xo_dfun' (d18 s (IntKind.wrap .u8 (IntKind.wrap .i64 (c + 1))) _ g24) (dsl_cons (ds_eq rfl (ds_agg (c24_ds _))) (dsl_cons (ds_eq rfl ds_i) dsl_nil)) ?_
      refine xo (e_pick_t (v := AV.bool r23) rfl c22 rfl) ?_
      refine ato_nil ?_
      refine atn_seq ?_
      refine at_cond (x := C33_43) (y := C33_44) rfl (fun c25 => ?_) (fun c25 => ?_)
      · have hF := ite_t c25 hF
        refine at_skip ?_
        refine atn_seq ?_
        refine at_block (x := C33_46) ?_
        refine at_ops (l := O33_46) ?_
        refine xo (e_mv' (v := AV.int .i64 c) h5) ?_
        refine xo (e_bin (v := .int .i64 (IntKind.wrap .i64 (c + 1))) rfl rfl rfl) ?_
        refine xo (e_mv' (v := AV.int .i64 (IntKind.wrap .i64 (c + 1))) rfl) ?_
        refine ato_nil ?_
        refine atn_blk ?_
        refine atn_lp ?_
        exact ih (.p5 out (IntKind.wrap .i64 (c + 1)) from_ s) _ hF _ _ _ h1 h3 rfl h6 o0
      · have hF := ite_f c25 hF
        refine at_exit ?_
        refine atx (k' := [.seq C33_47, .blk 1, .seq C33_60, .lp C33_20, .blk 0, .seq C33_61]) rfl ?_
        refine atn_seq ?_
        exact ih (.p6 out c from_ s) _ hF _ _ _ h1 h3 h5 h6 o0
    · have hF := ite_f c22 hF
      refine xo_off rfl c22 ?_
      refine xo_off rfl c22 ?_
      refine xo_off rfl c22 ?_
      refine xo_off rfl c22 ?_
      refine xo_off rfl c22 ?_
      refine xo (e_pick_f (v := AV.bool false) rfl c22 rfl) ?_
      refine ato_nil ?_
      refine atn_seq ?_
      refine at_cond_f (x := C33_43) (y := C33_44) rfl rfl ?_
      refine at_exit ?_
      refine atx (k' := [.seq C33_47, .blk 1, .seq C33_60, .lp C33_20, .blk 0, .seq C33_61]) rfl ?_
      refine atn_seq ?_
      exact ih (.p6 out c from_ s) _ hF _ _ _ h1 h3 h5 h6 o0
  | p6 out c from_ s =>
    dsimp only at hF
    intro tm st i0 h1 h3 h5 h6 o0
    refine at_seq (a := C33_48) (b := C33_49) ?_
    refine at_ops (l := O33_48) ?_
    refine xo (e_mv' (v := AV.str out) h3) ?_
    refine xo (e_mv' (v := AV.int .i64 from_) h6) ?_
    refine xo (e_cvI rfl) ?_
    obtain ⟨r26, g27, hF⟩ := bind_some hF
    refine xo_dfun' (d43 (IntKind.wrap .u8 from_) _ g27) (dsl_cons (ds_eq rfl ds_i) dsl_nil) ?_
    obtain ⟨g28, hF⟩ := grd_some hF
    refine xo (e_str rfl rfl (op_cat _ _ g28)) ?_
    refine xo (e_mv' (v := AV.str (out ++ r26)) rfl) ?_
    refine ato_nil ?_
    refine atn_seq ?_
    refine at_seq (a := C33_50) (b := C33_55) ?_
    refine at_seq (a := C33_51) (b := C33_52) ?_
    refine at_ops (l := O33_51) ?_
    refine xo (e_mv' (v := AV.int .i64 c) h5) ?_
    refine xo (e_mv' (v := AV.int .i64 from_) h6) ?_
    refine xo (e_bin (v := .int .i64 (IntKind.wrap .i64 (from_ + 1))) rfl rfl rfl) ?_
    refine xo (e_bin (v := .bool (decide (c > (IntKind.wrap .i64 (from_ + 1))))) rfl rfl rfl) ?_
    refine ato_nil ?_
    refine atn_seq ?_
    refine at_cond (x := C33_53) (y := C33_54) rfl (fun c29 => ?_) (fun c29 => ?_)
    · have hF := ite_t c29 hF
      refine at_ops (l := O33_53) ?_
      refine xo (e_mv' (v := AV.str (out ++ r26)) rfl) ?_
      obtain ⟨g30, hF⟩ := grd_some hF
      refine xo (e_str rfl rfl (op_cat _ _ g30)) ?_
      refine xo (e_mv' (v := AV.str ((out ++ r26) ++ ([45] : Str))) rfl) ?_
      refine ato_nil ?_
      refine atn_seq ?_
      exact ih (.p7 ((out ++ r26) ++ ([45] : Str)) c from_ s) _ hF _ _ _ h1 rfl h5 h6 o0
    · have hF := ite_f c29 hF
      refine at_skip ?_
      refine atn_seq ?_
      exact ih (.p7 (out ++ r26) c from_ s) _ hF _ _ _ h1 rfl h5 h6 o0
  | p7 out c from_ s =>
    dsimp only at hF
    intro tm st i0 h1 h3 h5 h6 o0
    refine at_seq (a := C33_56) (b := C33_57) ?_
    refine at_ops (l := O33_56) ?_
    refine xo (e_mv' (v := AV.int .i64 c) h5) ?_
    refine xo (e_mv' (v := AV.int .i64 from_) h6) ?_
    refine xo (e_bin (v := .bool (decide (c > from_))) rfl rfl rfl) ?_
    refine ato_nil ?_
    refine atn_seq ?_
    refine at_cond (x := C33_58) (y := C33_59) rfl (fun c31 => ?_) (fun c31 => ?_)
    · have hF := ite_t c31 hF
      refine at_ops (l := O33_58) ?_
      refine xo (e_mv' (v := AV.str out) h3) ?_
      refine xo (e_mv' (v := AV.int .i64 c) h5) ?_
      refine xo (e_cvI rfl) ?_
      obtain ⟨r32, g33, hF⟩ := bind_some hF
      refine xo_dfun' (d43 (IntKind.wrap .u8 c) _ g33) (dsl_cons (ds_eq rfl ds_i) dsl_nil) ?_
      obtain ⟨g34, hF⟩ := grd_some hF
      refine xo (e_str rfl rfl (op_cat _ _ g34)) ?_
      refine xo (e_mv' (v := AV.str (out ++ r32)) rfl) ?_
      refine ato_nil ?_
      refine atn_blk ?_
      refine atn_seq ?_
      refine at_ops (l := O33_60) ?_
      refine xo (e_mv' (v := AV.int .i64 c) h5) ?_
      refine xo (e_bin (v := .int .i64 (IntKind.wrap .i64 (c + 1))) rfl rfl rfl) ?_
      refine xo (e_mv' (v := AV.int .i64 (IntKind.wrap .i64 (c + 1))) rfl) ?_
      refine ato_nil ?_
      refine atn_lp ?_
      exact ih (.p4 (out ++ r32) (IntKind.wrap .i64 (c + 1)) s) _ hF _ _ _ h1 rfl rfl o0
    · have hF := ite_f c31 hF
      refine at_skip ?_
      refine atn_blk ?_
      refine atn_seq ?_
      refine at_ops (l := O33_60) ?_
      refine xo (e_mv' (v := AV.int .i64 c) h5) ?_
      refine xo (e_bin (v := .int .i64 (IntKind.wrap .i64 (c + 1))) rfl rfl rfl) ?_
      refine xo (e_mv' (v := AV.int .i64 (IntKind.wrap .i64 (c + 1))) rfl) ?_
      refine ato_nil ?_
      refine atn_lp ?_
      exact ih (.p4 out (IntKind.wrap .i64 (c + 1)) s) _ hF _ _ _ h1 h3 rfl o0
noncomputable def F33 (s : Arr 4 Int) : Option Str :=
  (F16 s >>= fun r7 =>
    (if (decide (((ls r7).length : Int) > 128)) = true then
      (if (decide (((ls r7).length : Int) < 256)) = true then
        (G33 (.p1 s))
      else
        (G33 (.p2 ([] : Str) (((ls r7).length : Int) == 0) s)))
    else
      (G33 (.p2 ([] : Str) (((ls r7).length : Int) == 0) s))))
theorem d33 (s : Arr 4 Int) (r : Str) (hF : F33 s = some r) : DFun Try.prog noG 33 [AV.agg (c24 s)] (AV.str r) := by
  unfold F33 at hF
  refine dfun_at k33 (Nat.le_of_ble_eq_true rfl) ?_
  show At (X33 r) _ _ _ _
  refine at_seq (a := C33_2) (b := C33_3) ?_
  refine at_ops (l := O33_2) ?_
  refine xo_box (cs := c24 s) rfl rfl (c24_len _) fun s2 i3 o4 k5 q6 => ?_
  refine xo (e_mv' (v := AV.str ([] : Str)) rfl) ?_
  refine ato_nil ?_
  refine atn_seq ?_
  refine at_seq (a := C33_4) (b := C33_5) ?_
  refine at_ops (l := O33_4) ?_
  refine xo (e_mv' (v := AV.str ([] : Str)) rfl) ?_
  refine ato_nil ?_
  refine atn_seq ?_
  refine at_seq (a := C33_6) (b := C33_7) ?_
  refine at_ops (l := O33_6) ?_
  refine xo (e_loadN rfl o4 (LR.whole _ _) (c24_len _)) ?_
  obtain ⟨r7, g8, hF⟩ := bind_some hF
  refine xo_dfun' (d16 s _ g8) (dsl_cons (ds_eq rfl (ds_agg (c24_ds _))) dsl_nil) ?_
  refine xo (e_len (rd_V rfl)) ?_
  refine xo (e_mv' (v := AV.int .i64 ((ls r7).length : Int)) rfl) ?_
  refine ato_nil ?_
  refine atn_seq ?_
  refine at_seq (a := C33_8) (b := C33_15) ?_
  refine at_seq (a := C33_9) (b := C33_10) ?_
  refine at_ops (l := O33_9) ?_
  refine xo (e_mv' (v := AV.int .i64 ((ls r7).length : Int)) rfl) ?_
  refine xo (e_bin (v := .bool (decide (((ls r7).length : Int) > 128))) rfl rfl rfl) ?_
  refine xo (e_mv' (v := AV.bool (decide (((ls r7).length : Int) > 128))) rfl) ?_
  refine bsplit (b := decide (((ls r7).length : Int) > 128)) (fun c9 => ?_) (fun c9 => ?_)
  · have hF := ite_t c9 hF
    refine xo_on rfl c9 ?_
    refine xo (e_mv' (v := AV.int .i64 ((ls r7).length : Int)) rfl) ?_
    refine xo_on rfl c9 ?_
    refine xo (e_bin (v := .bool (decide (((ls r7).length : Int) < 256))) rfl rfl rfl) ?_
    refine xo (e_pick_t (v := AV.bool (decide (((ls r7).length : Int) < 256))) rfl c9 rfl) ?_
    refine xo (e_mv' (v := AV.bool (decide (((ls r7).length : Int) < 256))) rfl) ?_
    refine bsplit (b := decide (((ls r7).length : Int) < 256)) (fun c10 => ?_) (fun c10 => ?_)
    · have hF := ite_t c10 hF
      refine xo_off rfl c10 ?_
      refine xo_off rfl c10 ?_
      refine xo (e_pick_t (v := AV.bool true) rfl c10 rfl) ?_
      refine ato_nil ?_
      refine atn_seq ?_
      refine at_cond_t (x := C33_11) (y := C33_14) rfl rfl ?_
      exact w33 (.p1 s) _ hF _ _ _ rfl o4
    · have hF := ite_f c10 hF
      refine xo_on rfl c10 ?_
      refine xo (e_mv' (v := AV.int .i64 ((ls r7).length : Int)) rfl) ?_
      refine xo_on rfl c10 ?_
      refine xo (e_bin (v := .bool ((((ls r7).length : Int) == 0))) rfl rfl rfl) ?_
      refine xo (e_pick_f (v := AV.bool (((ls r7).length : Int) == 0)) rfl c10 rfl) ?_
      refine ato_nil ?_
      refine atn_seq ?_
      exact w33 (.p2 ([] : Str) (((ls r7).length : Int) == 0) s) _ hF _ _ _ rfl rfl rfl o4
  · have hF := ite_f c9 hF
    refine xo_off rfl c9 ?_
    refine xo_off rfl c9 ?_
    refine xo (e_pick_f (v := AV.bool false) rfl c9 rfl) ?_
    refine xo (e_mv' (v := AV.bool false) rfl) ?_
    refine xo_on rfl rfl ?_
    refine xo (e_mv' (v := AV.int .i64 ((ls r7).length : Int)) rfl) ?_
    refine xo_on rfl rfl ?_
    refine xo (e_bin (v := .bool ((((ls r7).length : Int) == 0))) rfl rfl rfl) ?_
    refine xo (e_pick_f (v := AV.bool (((ls r7).length : Int) == 0)) rfl rfl rfl) ?_
    refine ato_nil ?_
    refine atn_seq ?_
    exact w33 (.p2 ([] : Str) (((ls r7).length : Int) == 0) s) _ hF _ _ _ rfl rfl rfl o4
/-! ### 45: paddock/paddockref07.special -/
def O45_2 : List AOp := [⟨(.some 4), .none, (.plain (.mv (.c (.int .u8 0))))⟩]
def C45_2 : ACode := .ops O45_2
def O45_5_3 : List AOp := ⟨(.some 29), (.some (16, true)), (.plain (.mv (.t 28)))⟩ :: ⟨(.some 30), (.some (29, false)), (.plain (.mv (.t 0)))⟩ :: ⟨(.some 31), (.some (29, false)), (.plain (.mv (.t 1)))⟩ :: ⟨(.some 32), (.some (29, false)), (.plain (.binI .add (.t 31) (.c (.int .i64 1))))⟩ :: ⟨(.some 33), (.some (29, false)), (.plain (.ixS (.t 30) (.t 32)))⟩ :: ⟨(.some 34), (.some (29, false)), (.plain (.binI .eql (.t 33) (.c (.int .u8 58))))⟩ :: ⟨(.some 35), (.some (16, true)), (.plain (.pick (.t 29) (.c (.bool true)) (.t 34)))⟩ :: ⟨(.some 36), .none, (.plain (.pick (.t 16) (.t 35) (.c (.bool false))))⟩ :: []
def O45_5_2 : List AOp := ⟨(.some 21), (.some (16, true)), (.plain (.binI .eql (.t 20) (.c (.int .u8 46))))⟩ :: ⟨(.some 22), (.some (16, true)), (.plain (.mv (.t 21)))⟩ :: ⟨(.some 23), (.some (22, false)), (.plain (.mv (.t 0)))⟩ :: ⟨(.some 24), (.some (22, false)), (.plain (.mv (.t 1)))⟩ :: ⟨(.some 25), (.some (22, false)), (.plain (.binI .add (.t 24) (.c (.int .i64 1))))⟩ :: ⟨(.some 26), (.some (22, false)), (.plain (.ixS (.t 23) (.t 25)))⟩ :: ⟨(.some 27), (.some (22, false)), (.plain (.binI .eql (.t 26) (.c (.int .u8 61))))⟩ :: ⟨(.some 28), (.some (16, true)), (.plain (.pick (.t 22) (.c (.bool true)) (.t 27)))⟩ :: O45_5_3
def O45_5_1 : List AOp := ⟨(.some 13), (.some (10, true)), (.plain (.ixS (.t 11) (.t 12)))⟩ :: ⟨(.some 14), (.some (10, true)), (.plain (.binI .eql (.t 13) (.c (.int .u8 91))))⟩ :: ⟨(.some 15), .none, (.plain (.pick (.t 10) (.t 14) (.c (.bool false))))⟩ :: ⟨(.some 16), .none, (.plain (.mv (.t 15)))⟩ :: ⟨(.some 17), (.some (16, true)), (.plain (.mv (.t 0)))⟩ :: ⟨(.some 18), (.some (16, true)), (.plain (.mv (.t 1)))⟩ :: ⟨(.some 19), (.some (16, true)), (.plain (.binI .add (.t 18) (.c (.int .i64 1))))⟩ :: ⟨(.some 20), (.some (16, true)), (.plain (.ixS (.t 17) (.t 19)))⟩ :: O45_5_2
def O45_5 : List AOp := ⟨(.some 5), .none, (.plain (.mv (.t 1)))⟩ :: ⟨(.some 6), .none, (.plain (.binI .add (.t 5) (.c (.int .i64 1))))⟩ :: ⟨(.some 7), .none, (.plain (.mv (.t 0)))⟩ :: ⟨(.some 8), .none, (.plain (.lenS (.t 7)))⟩ :: ⟨(.some 9), .none, (.plain (.binI .lss (.t 6) (.t 8)))⟩ :: ⟨(.some 10), .none, (.plain (.mv (.t 9)))⟩ :: ⟨(.some 11), (.some (10, true)), (.plain (.mv (.t 0)))⟩ :: ⟨(.some 12), (.some (10, true)), (.plain (.mv (.t 1)))⟩ :: O45_5_1
def C45_5 : ACode := .ops O45_5
def O45_8 : List AOp := [⟨(.some 37), .none, (.plain (.mv (.t 0)))⟩, ⟨(.some 38), .none, (.plain (.mv (.t 1)))⟩, ⟨(.some 39), .none, (.plain (.binI .add (.t 38) (.c (.int .i64 1))))⟩, ⟨(.some 40), .none, (.plain (.ixS (.t 37) (.t 39)))⟩, ⟨(.some 4), .none, (.plain (.mv (.t 40)))⟩]
def C45_8 : ACode := .ops O45_8
def C45_9 : ACode := .ret
def C45_7 : ACode := .seq C45_8 C45_9
def C45_10 : ACode := .skip
def C45_6 : ACode := .cond (.t 36) C45_7 C45_10
def C45_4 : ACode := .seq C45_5 C45_6
def O45_12 : List AOp := [⟨(.some 4), .none, (.plain (.mv (.c (.int .u8 0))))⟩]
def C45_12 : ACode := .ops O45_12
def C45_13 : ACode := .ret
def C45_11 : ACode := .seq C45_12 C45_13
def C45_3 : ACode := .seq C45_4 C45_11
def C45_1 : ACode := .seq C45_2 C45_3
def R45 : List RA := [(.tmp 4)]
theorem k45 : compF Try.prog (muL []) 45 = some ⟨41, C45_1, R45⟩ := by kernel_rfl
noncomputable def X45 (r : Int) : Cx := ⟨Try.prog, noG, 41, muL [], R45, isD (fun x => x = AV.int .u8 r)⟩
inductive St45 where
  | p1 (s : Str) (i : Int)
noncomputable def G45 : St45 → Option Int
  | .p1 s i =>
    (ix s (IntKind.wrap .i64 (i + 1)) >>= fun b14 =>
      (some (b14.toNat : Int)))
def M45 (x : St45) (r : Int) : Prop := match x with
  | .p1 s i => ∀ (tm : Fr) (st : Store), tm 0 = AV.str s → tm 1 = AV.int .i64 i → At (X45 r) C45_7 [.seq C45_11] tm st
theorem w45 : ∀ (x : St45) (r : Int), G45 x = some r → M45 x r := by
  intro x r hF
  cases x with
  | p1 s i =>
    dsimp only [G45] at hF
    intro tm st h0 h1
    refine at_seq (a := C45_8) (b := C45_9) ?_
    refine at_ops (l := O45_8) ?_
    refine xo (e_mv' (v := AV.str s) h0) ?_
    refine xo (e_mv' (v := AV.int .i64 i) h1) ?_
    refine xo (e_bin (v := .int .i64 (IntKind.wrap .i64 (i + 1))) rfl rfl rfl) ?_
    obtain ⟨b14, g15, hF⟩ := bind_some hF
    refine xo (e_ixS rfl rfl g15) ?_
    refine xo (e_mv' (v := AV.int .u8 (b14.toNat : Int)) rfl) ?_
    refine ato_nil ?_
    refine atn_seq ?_
    refine at_ret ?_
    cases hF
    exact atr (rl_tmp rfl rl_nil) (isd (ds_eq rfl ds_i))
noncomputable def F45 (s : Str) (i : Int) : Option Int :=
  (if (decide ((IntKind.wrap .i64 (i + 1)) < ((s).length : Int))) = true then
    (ix s i >>= fun b2 =>
      (if ((b2.toNat : Int) == 91) = true then
        (ix s (IntKind.wrap .i64 (i + 1)) >>= fun b5 =>
          (if ((b5.toNat : Int) == 46) = true then
            (G45 (.p1 s i))
          else
            (ix s (IntKind.wrap .i64 (i + 1)) >>= fun b8 =>
              (if ((b8.toNat : Int) == 61) = true then
                (G45 (.p1 s i))
              else
                (ix s (IntKind.wrap .i64 (i + 1)) >>= fun b11 =>
                  (if ((b11.toNat : Int) == 58) = true then
                    (G45 (.p1 s i))
                  else
                    (some 0)))))))
      else
        (some 0)))
  else
    (some 0))
theorem d45 (s : Str) (i : Int) (r : Int) (hF : F45 s i = some r) : DFun Try.prog noG 45 [AV.str s, AV.int .i64 i] (AV.int .u8 r) := by
  unfold F45 at hF
  refine dfun_at k45 (Nat.le_of_ble_eq_true rfl) ?_
  show At (X45 r) _ _ _ _
  refine at_seq (a := C45_2) (b := C45_3) ?_
  refine at_ops (l := O45_2) ?_
  refine xo (e_mv' (v := AV.int .u8 0) rfl) ?_
  refine ato_nil ?_
  refine atn_seq ?_
  refine at_seq (a := C45_4) (b := C45_11) ?_
  refine at_seq (a := C45_5) (b := C45_6) ?_
  refine at_ops (l := O45_5) ?_
  refine xo (e_mv' (v := AV.int .i64 i) rfl) ?_
  refine xo (e_bin (v := .int .i64 (IntKind.wrap .i64 (i + 1))) rfl rfl rfl) ?_
  refine xo (e_mv' (v := AV.str s) rfl) ?_
  refine xo (e_lenS rfl) ?_
  refine xo (e_bin (v := .bool (decide ((IntKind.wrap .i64 (i + 1)) < ((s).length : Int)))) rfl rfl rfl) ?_
  refine xo (e_mv' (v := AV.bool (decide ((IntKind.wrap .i64 (i + 1)) < ((s).length : Int)))) rfl) ?_
  refine bsplit (b := decide ((IntKind.wrap .i64 (i + 1)) < ((s).length : Int))) (fun c1 => ?_) (fun c1 => ?_)
  · have hF := ite_t c1 hF
    refine xo_on rfl c1 ?_
    refine xo (e_mv' (v := AV.str s) rfl) ?_
    refine xo_on rfl c1 ?_
    refine xo (e_mv' (v := AV.int .i64 i) rfl) ?_
    obtain ⟨b2, g3, hF⟩ := bind_some hF
    refine xo_on rfl c1 ?_
    refine xo (e_ixS rfl rfl g3) ?_
    refine xo_on rfl c1 ?_
    refine xo (e_bin (v := .bool (((b2.toNat : Int) == 91))) rfl rfl rfl) ?_
    refine xo (e_pick_t (v := AV.bool ((b2.toNat : Int) == 91)) rfl c1 rfl) ?_
    refine xo (e_mv' (v := AV.bool ((b2.toNat : Int) == 91)) rfl) ?_
    refine bsplit (b := ((b2.toNat : Int) == 91)) (fun c4 => ?_) (fun c4 => ?_)
    · have hF := ite_t c4 hF
      refine xo_on rfl c4 ?_
      refine xo (e_mv' (v := AV.str s) rfl) ?_
      refine xo_on rfl c4 ?_
      refine xo (e_mv' (v := AV.int .i64 i) rfl) ?_
      refine xo_on rfl c4 ?_
      refine xo (e_bin (v := .int .i64 (IntKind.wrap .i64 (i + 1))) rfl rfl rfl) ?_
      obtain ⟨b5, g6, hF⟩ := bind_some hF
      refine xo_on rfl c4 ?_
      refine xo (e_ixS rfl rfl g6) ?_
      refine xo_on rfl c4 ?_
      refine xo (e_bin (v := .bool (((b5.toNat : Int) == 46))) rfl rfl rfl) ?_
      refine xo_on rfl c4 ?_
      refine xo (e_mv' (v := AV.bool ((b5.toNat : Int) == 46)) rfl) ?_
      refine bsplit (b := ((b5.toNat : Int) == 46)) (fun c7 => ?_) (fun c7 => ?_)
      · have hF := ite_t c7 hF
        refine xo_off rfl c7 ?_
        refine xo_off rfl c7 ?_
        refine xo_off rfl c7 ?_
        refine xo_off rfl c7 ?_
        refine xo_off rfl c7 ?_
        refine xo_on rfl c4 ?_
        refine xo (e_pick_t (v := AV.bool true) rfl c7 rfl) ?_
        refine xo_on rfl c4 ?_
        refine xo (e_mv' (v := AV.bool true) rfl) ?_
        refine xo_off rfl rfl ?_
        refine xo_off rfl rfl ?_
        refine xo_off rfl rfl ?_
        refine xo_off rfl rfl ?_
        refine xo_off rfl rfl ?_
        refine xo_on rfl c4 ?_
        refine xo (e_pick_t (v := AV.bool true) rfl rfl rfl) ?_
        refine xo (e_pick_t (v := AV.bool true) rfl c4 rfl) ?_
        refine ato_nil ?_
        refine atn_seq ?_
        refine at_cond_t (x := C45_7) (y := C45_10) rfl rfl ?_
        exact w45 (.p1 s i) _ hF _ _ rfl rfl
      · have hF := ite_f c7 hF
        refine xo_on rfl c7 ?_
        refine xo (e_mv' (v := AV.str s) rfl) ?_
        refine xo_on rfl c7 ?_
        refine xo (e_mv' (v := AV.int .i64 i) rfl) ?_
        refine xo_on rfl c7 ?_
        refine xo (e_bin (v := .int .i64 (IntKind.wrap .i64 (i + 1))) rfl rfl rfl) ?_
        obtain ⟨b8, g9, hF⟩ := bind_some hF
        refine xo_on rfl c7 ?_
        refine xo (e_ixS rfl rfl g9) ?_
        refine xo_on rfl c7 ?_
        refine xo (e_bin (v := .bool (((b8.toNat : Int) == 61))) rfl rfl rfl) ?_
        refine xo_on rfl c4 ?_
        refine xo (e_pick_f (v := AV.bool ((b8.toNat : Int) == 61)) rfl c7 rfl) ?_
        refine xo_on rfl c4 ?_
        refine xo (e_mv' (v := AV.bool ((b8.toNat : Int) == 61)) rfl) ?_
        refine bsplit (b := ((b8.toNat : Int) == 61)) (fun c10 => ?_) (fun c10 => ?_)
        · have hF := ite_t c10 hF
          refine xo_off rfl c10 ?_
          refine xo_off rfl c10 ?_
          refine xo_off rfl c10 ?_
          refine xo_off rfl c10 ?_
          refine xo_off rfl c10 ?_
          refine xo_on rfl c4 ?_
          refine xo (e_pick_t (v := AV.bool true) rfl c10 rfl) ?_
          refine xo (e_pick_t (v := AV.bool true) rfl c4 rfl) ?_
          refine ato_nil ?_
          refine atn_seq ?_
          refine at_cond_t (x := C45_7) (y := C45_10) rfl rfl ?_
          exact w45 (.p1 s i) _ hF _ _ rfl rfl
        · have hF := ite_f c10 hF
          refine xo_on rfl c10 ?_
          refine xo (e_mv' (v := AV.str s) rfl) ?_
          refine xo_on rfl c10 ?_
          refine xo (e_mv' (v := AV.int .i64 i) rfl) ?_
          refine xo_on rfl c10 ?_
          refine xo (e_bin (v := .int .i64 (IntKind.wrap .i64 (i + 1))) rfl rfl rfl) ?_
          obtain ⟨b11, g12, hF⟩ := bind_some hF
          refine xo_on rfl c10 ?_
          refine xo (e_ixS rfl rfl g12) ?_
          refine xo_on rfl c10 ?_
          refine xo (e_bin (v := .bool (((b11.toNat : Int) == 58))) rfl rfl rfl) ?_
          refine xo_on rfl c4 ?_
          refine xo (e_pick_f (v := AV.bool ((b11.toNat : Int) == 58)) rfl c10 rfl) ?_
          refine xo (e_pick_t (v := AV.bool ((b11.toNat : Int) == 58)) rfl c4 rfl) ?_
          refine ato_nil ?_
          refine atn_seq ?_
          refine at_cond (x := C45_7) (y := C45_10) rfl (fun c13 => ?_) (fun c13 => ?_)
          · have hF := ite_t c13 hF
            exact w45 (.p1 s i) _ hF _ _ rfl rfl
          · have hF := ite_f c13 hF
            refine at_skip ?_
            refine atn_seq ?_
            refine at_seq (a := C45_12) (b := C45_13) ?_
            refine at_ops (l := O45_12) ?_
            refine xo (e_mv' (v := AV.int .u8 0) rfl) ?_
            refine ato_nil ?_
            refine atn_seq ?_
            refine at_ret ?_
            cases hF
            exact atr (rl_tmp rfl rl_nil) (isd (ds_eq rfl ds_i))
    · have hF := ite_f c4 hF
      refine xo_off rfl c4 ?_
      refine xo_off rfl c4 ?_
      refine xo_off rfl c4 ?_
      refine xo_off rfl c4 ?_
      refine xo_off rfl c4 ?_
      refine xo_off rfl c4 ?_
      refine xo_off' rfl ?_
      refine xo_off' rfl ?_
      refine xo_off' rfl ?_
      refine xo_off' rfl ?_
      refine xo_off' rfl ?_
      refine xo_off rfl c4 ?_
      refine xo_off rfl c4 ?_
      refine xo_off' rfl ?_
      refine xo_off' rfl ?_
      refine xo_off' rfl ?_
      refine xo_off' rfl ?_
      refine xo_off' rfl ?_
      refine xo_off rfl c4 ?_
      refine xo (e_pick_f (v := AV.bool false) rfl c4 rfl) ?_
      refine ato_nil ?_
      refine atn_seq ?_
      refine at_cond_f (x := C45_7) (y := C45_10) rfl rfl ?_
      refine at_skip ?_
      refine atn_seq ?_
      refine at_seq (a := C45_12) (b := C45_13) ?_
      refine at_ops (l := O45_12) ?_
      refine xo (e_mv' (v := AV.int .u8 0) rfl) ?_
      refine ato_nil ?_
      refine atn_seq ?_
      refine at_ret ?_
      cases hF
      exact atr (rl_tmp rfl rl_nil) (isd (ds_eq rfl ds_i))
  · have hF := ite_f c1 hF
    refine xo_off rfl c1 ?_
    refine xo_off rfl c1 ?_
    refine xo_off rfl c1 ?_
    refine xo_off rfl c1 ?_
    refine xo (e_pick_f (v := AV.bool false) rfl c1 rfl) ?_
    refine xo (e_mv' (v := AV.bool false) rfl) ?_
    refine xo_off rfl rfl ?_
    refine xo_off rfl rfl ?_
    refine xo_off rfl rfl ?_
    refine xo_off rfl rfl ?_
    refine xo_off rfl rfl ?_
    refine xo_off rfl rfl ?_
    refine xo_off' rfl ?_
    refine xo_off' rfl ?_
    refine xo_off' rfl ?_
    refine xo_off' rfl ?_
    refine xo_off' rfl ?_
    refine xo_off rfl rfl ?_
    refine xo_off rfl rfl ?_
    refine xo_off' rfl ?_
    refine xo_off' rfl ?_
    refine xo_off' rfl ?_
    refine xo_off' rfl ?_
    refine xo_off' rfl ?_
    refine xo_off rfl rfl ?_
    refine xo (e_pick_f (v := AV.bool false) rfl rfl rfl) ?_
    refine ato_nil ?_
    refine atn_seq ?_
    refine at_cond_f (x := C45_7) (y := C45_10) rfl rfl ?_
    refine at_skip ?_
    refine atn_seq ?_
    refine at_seq (a := C45_12) (b := C45_13) ?_
    refine at_ops (l := O45_12) ?_
    refine xo (e_mv' (v := AV.int .u8 0) rfl) ?_
    refine ato_nil ?_
    refine atn_seq ?_
    refine at_ret ?_
    cases hF
    exact atr (rl_tmp rfl rl_nil) (isd (ds_eq rfl ds_i))
/-! ### 47: paddock/paddockref07.one -/
def O47_2 : List AOp := [⟨(.some 4), .none, (.plain (.mv (.c (.int .u8 0))))⟩, ⟨(.some 5), .none, (.plain (.mv (.c (.int .i64 0))))⟩, ⟨(.some 6), .none, (.plain (.mv (.c (.bool false))))⟩]
def C47_2 : ACode := .ops O47_2
def Q47_5_2 : List AOp := ⟨(.some 23), .none, (.plain (.mv (.t 22)))⟩ :: ⟨(.some 24), (.some (23, true)), (.plain (.mv (.t 0)))⟩ :: ⟨(.some 25), (.some (23, true)), (.plain (.mv (.t 1)))⟩ :: ⟨(.some 26), (.some (23, true)), (.plain (.binI .add (.t 25) (.c (.int .i64 4))))⟩ :: ⟨(.some 27), (.some (23, true)), (.plain (.ixS (.t 24) (.t 26)))⟩ :: ⟨(.some 28), (.some (23, true)), (.plain (.binI .eql (.t 27) (.c (.int .u8 93))))⟩ :: ⟨(.some 29), .none, (.plain (.pick (.t 23) (.t 28) (.c (.bool false))))⟩ :: []
def Q47_5_1 : List AOp := ⟨(.some 15), (.some (12, true)), (.plain (.binI .add (.t 14) (.c (.int .i64 3))))⟩ :: ⟨(.some 16), (.some (12, true)), (.plain (.ixS (.t 13) (.t 15)))⟩ :: ⟨(.some 17), (.some (12, true)), (.plain (.mv (.t 0)))⟩ :: ⟨(.some 18), (.some (12, true)), (.plain (.mv (.t 1)))⟩ :: ⟨(.some 19), (.some (12, true)), (.plain (.binI .add (.t 18) (.c (.int .i64 1))))⟩ :: ⟨(.some 20), (.some (12, true)), (.plain (.ixS (.t 17) (.t 19)))⟩ :: ⟨(.some 21), (.some (12, true)), (.plain (.binI .eql (.t 16) (.t 20)))⟩ :: ⟨(.some 22), .none, (.plain (.pick (.t 12) (.t 21) (.c (.bool false))))⟩ :: Q47_5_2
def Q47_5 : List AOp := ⟨(.some 7), .none, (.plain (.mv (.t 1)))⟩ :: ⟨(.some 8), .none, (.plain (.binI .add (.t 7) (.c (.int .i64 4))))⟩ :: ⟨(.some 9), .none, (.plain (.mv (.t 0)))⟩ :: ⟨(.some 10), .none, (.plain (.lenS (.t 9)))⟩ :: ⟨(.some 11), .none, (.plain (.binI .lss (.t 8) (.t 10)))⟩ :: ⟨(.some 12), .none, (.plain (.mv (.t 11)))⟩ :: ⟨(.some 13), (.some (12, true)), (.plain (.mv (.t 0)))⟩ :: ⟨(.some 14), (.some (12, true)), (.plain (.mv (.t 1)))⟩ :: Q47_5_1
def S47_5 : List AOp := []
def C47_5 : ACode := .draw [] 0 0 Q47_5 S47_5
def O47_8_1 : List AOp := ⟨(.some 6), .none, (.plain (.mv (.c (.bool true))))⟩ :: []
def O47_8 : List AOp := ⟨(.some 30), .none, (.plain (.mv (.t 0)))⟩ :: ⟨(.some 31), .none, (.plain (.mv (.t 1)))⟩ :: ⟨(.some 32), .none, (.plain (.binI .add (.t 31) (.c (.int .i64 2))))⟩ :: ⟨(.some 33), .none, (.plain (.ixS (.t 30) (.t 32)))⟩ :: ⟨(.some 34), .none, (.plain (.mv (.t 1)))⟩ :: ⟨(.some 35), .none, (.plain (.binI .add (.t 34) (.c (.int .i64 5))))⟩ :: ⟨(.some 4), .none, (.plain (.mv (.t 33)))⟩ :: ⟨(.some 5), .none, (.plain (.mv (.t 35)))⟩ :: O47_8_1
def C47_8 : ACode := .ops O47_8
def C47_9 : ACode := .ret
def C47_7 : ACode := .seq C47_8 C47_9
def C47_10 : ACode := .skip
def C47_6 : ACode := .cond (.t 29) C47_7 C47_10
def C47_4 : ACode := .seq C47_5 C47_6
def O47_12 : List AOp := [⟨(.some 36), .none, (.plain (.mv (.t 1)))⟩, ⟨(.some 4), .none, (.plain (.mv (.c (.int .u8 0))))⟩, ⟨(.some 5), .none, (.plain (.mv (.t 36)))⟩, ⟨(.some 6), .none, (.plain (.mv (.c (.bool false))))⟩]
def C47_12 : ACode := .ops O47_12
def C47_13 : ACode := .ret
def C47_11 : ACode := .seq C47_12 C47_13
def C47_3 : ACode := .seq C47_4 C47_11
def C47_1 : ACode := .seq C47_2 C47_3
def R47 : List RA := [(.tmp 4), (.tmp 5), (.tmp 6)]
theorem k47 : compF Try.prog (muL []) 47 = some ⟨37, C47_1, R47⟩ := by kernel_rfl
noncomputable def X47 (r : Int × Int × Bool) : Cx := ⟨Try.prog, noG, 37, muL [], R47, isD (fun x => x = AV.tup [AV.int .u8 r.1, AV.int .i64 r.2.1, AV.bool r.2.2])⟩
inductive St47 where
  | p1 (i : Int)
noncomputable def G47 : St47 → Option (Int × Int × Bool)
  | .p1 i =>
    (some (0, i, false))
def M47 (x : St47) (r : Int × Int × Bool) : Prop := match x with
  | .p1 i => ∀ (tm : Fr) (st : Store), tm 1 = AV.int .i64 i → At (X47 r) C47_11 [] tm st
theorem w47 : ∀ (x : St47) (r : Int × Int × Bool), G47 x = some r → M47 x r := by
  intro x r hF
  cases x with
  | p1 i =>
    dsimp only [G47] at hF
    intro tm st h1
    refine at_seq (a := C47_12) (b := C47_13) ?_
    refine at_ops (l := O47_12) ?_
    refine xo (e_mv' (v := AV.int .i64 i) h1) ?_
    refine xo (e_mv' (v := AV.int .u8 0) rfl) ?_
    refine xo (e_mv' (v := AV.int .i64 i) rfl) ?_
    refine xo (e_mv' (v := AV.bool false) rfl) ?_
    refine ato_nil ?_
    refine atn_seq ?_
    refine at_ret ?_
    cases hF
    exact atr (rl_tmp rfl (rl_tmp rfl (rl_tmp rfl rl_nil))) (isd (ds_tup (dsl_cons (ds_eq rfl ds_i) (dsl_cons (ds_eq rfl ds_i) (dsl_cons (ds_eq rfl ds_b) dsl_nil)))))
noncomputable def F47 (s : Str) (i : Int) : Option (Int × Int × Bool) :=
  (if (decide ((IntKind.wrap .i64 (i + 4)) < ((s).length : Int))) = true then
    (ix s (IntKind.wrap .i64 (i + 3)) >>= fun b2 =>
      (ix s (IntKind.wrap .i64 (i + 1)) >>= fun b4 =>
        (if ((b2.toNat : Int) == (b4.toNat : Int)) = true then
          (ix s (IntKind.wrap .i64 (i + 4)) >>= fun b7 =>
            (if ((b7.toNat : Int) == 93) = true then
              (ix s (IntKind.wrap .i64 (i + 2)) >>= fun b10 =>
                (some ((b10.toNat : Int), IntKind.wrap .i64 (i + 5), true)))
            else
              (G47 (.p1 i))))
        else
          (G47 (.p1 i)))))
  else
    (G47 (.p1 i)))
theorem d47 (s : Str) (i : Int) (r : Int × Int × Bool) (hF : F47 s i = some r) : DFun Try.prog noG 47 [AV.str s, AV.int .i64 i] (AV.tup [AV.int .u8 r.1, AV.int .i64 r.2.1, AV.bool r.2.2]) := by
  unfold F47 at hF
  refine dfun_at k47 (Nat.le_of_ble_eq_true rfl) ?_
  show At (X47 r) _ _ _ _
  refine at_seq (a := C47_2) (b := C47_3) ?_
  refine at_ops (l := O47_2) ?_
  refine xo (e_mv' (v := AV.int .u8 0) rfl) ?_
  refine xo (e_mv' (v := AV.int .i64 0) rfl) ?_
  refine xo (e_mv' (v := AV.bool false) rfl) ?_
  refine ato_nil ?_
  refine atn_seq ?_
  refine at_seq (a := C47_4) (b := C47_11) ?_
  refine at_seq (a := C47_5) (b := C47_6) ?_
  refine at_draw0 (q := Q47_5) (suf := S47_5) ?_
  refine xd rfl (e_mv' (v := AV.int .i64 i) rfl) ?_
  refine xd rfl (e_bin (v := .int .i64 (IntKind.wrap .i64 (i + 4))) rfl rfl rfl) ?_
  refine xd rfl (e_mv' (v := AV.str s) rfl) ?_
  refine xd rfl (e_lenS rfl) ?_
  refine xd rfl (e_bin (v := .bool (decide ((IntKind.wrap .i64 (i + 4)) < ((s).length : Int)))) rfl rfl rfl) ?_
  refine xd rfl (e_mv' (v := AV.bool (decide ((IntKind.wrap .i64 (i + 4)) < ((s).length : Int)))) rfl) ?_
  refine bsplit (b := decide ((IntKind.wrap .i64 (i + 4)) < ((s).length : Int))) (fun c1 => ?_) (fun c1 => ?_)
  · have hF := ite_t c1 hF
    refine xd_on rfl c1 ?_
    refine xd rfl (e_mv' (v := AV.str s) rfl) ?_
    refine xd_on rfl c1 ?_
    refine xd rfl (e_mv' (v := AV.int .i64 i) rfl) ?_
    refine xd_on rfl c1 ?_
    refine xd rfl (e_bin (v := .int .i64 (IntKind.wrap .i64 (i + 3))) rfl rfl rfl) ?_
    obtain ⟨b2, g3, hF⟩ := bind_some hF
    refine xd_on rfl c1 ?_
    refine xd rfl (e_ixS rfl rfl g3) ?_
    refine xd_on rfl c1 ?_
    refine xd rfl (e_mv' (v := AV.str s) rfl) ?_
    refine xd_on rfl c1 ?_
    refine xd rfl (e_mv' (v := AV.int .i64 i) rfl) ?_
    refine xd_on rfl c1 ?_
    refine xd rfl (e_bin (v := .int .i64 (IntKind.wrap .i64 (i + 1))) rfl rfl rfl) ?_
    obtain ⟨b4, g5, hF⟩ := bind_some hF
    refine xd_on rfl c1 ?_
    refine xd rfl (e_ixS rfl rfl g5) ?_
    refine xd_on rfl c1 ?_
    refine xd rfl (e_bin (v := .bool (((b2.toNat : Int) == (b4.toNat : Int)))) rfl rfl rfl) ?_
    refine xd rfl (e_pick_t (v := AV.bool ((b2.toNat : Int) == (b4.toNat : Int))) rfl c1 rfl) ?_
    refine xd rfl (e_mv' (v := AV.bool ((b2.toNat : Int) == (b4.toNat : Int))) rfl) ?_
    refine bsplit (b := ((b2.toNat : Int) == (b4.toNat : Int))) (fun c6 => ?_) (fun c6 => ?_)
    · have hF := ite_t c6 hF
      refine xd_on rfl c6 ?_
      refine xd rfl (e_mv' (v := AV.str s) rfl) ?_
      refine xd_on rfl c6 ?_
      refine xd rfl (e_mv' (v := AV.int .i64 i) rfl) ?_
      refine xd_on rfl c6 ?_
      refine xd rfl (e_bin (v := .int .i64 (IntKind.wrap .i64 (i + 4))) rfl rfl rfl) ?_
      obtain ⟨b7, g8, hF⟩ := bind_some hF
      refine xd_on rfl c6 ?_
      refine xd rfl (e_ixS rfl rfl g8) ?_
      refine xd_on rfl c6 ?_
      refine xd rfl (e_bin (v := .bool (((b7.toNat : Int) == 93))) rfl rfl rfl) ?_
      refine xd rfl (e_pick_t (v := AV.bool ((b7.toNat : Int) == 93)) rfl c6 rfl) ?_
      refine atd_nil ?_
      refine ato_nil ?_
      refine atn_seq ?_
      refine at_cond (x := C47_7) (y := C47_10) rfl (fun c9 => ?_) (fun c9 => ?_)
      · have hF := ite_t c9 hF
        refine at_seq (a := C47_8) (b := C47_9) ?_
        refine at_ops (l := O47_8) ?_
        refine xo (e_mv' (v := AV.str s) rfl) ?_
        refine xo (e_mv' (v := AV.int .i64 i) rfl) ?_
        refine xo (e_bin (v := .int .i64 (IntKind.wrap .i64 (i + 2))) rfl rfl rfl) ?_
        obtain ⟨b10, g11, hF⟩ := bind_some hF
        refine xo (e_ixS rfl rfl g11) ?_
        refine xo (e_mv' (v := AV.int .i64 i) rfl) ?_
        refine xo (e_bin (v := .int .i64 (IntKind.wrap .i64 (i + 5))) rfl rfl rfl) ?_
        refine xo (e_mv' (v := AV.int .u8 (b10.toNat : Int)) rfl) ?_
        refine xo (e_mv' (v := AV.int .i64 (IntKind.wrap .i64 (i + 5))) rfl) ?_
        refine xo (e_mv' (v := AV.bool true) rfl) ?_
        refine ato_nil ?_
        refine atn_seq ?_
        refine at_ret ?_
        cases hF
        exact atr (rl_tmp rfl (rl_tmp rfl (rl_tmp rfl rl_nil))) (isd (ds_tup (dsl_cons (ds_eq rfl ds_i) (dsl_cons (ds_eq rfl ds_i) (dsl_cons (ds_eq rfl ds_b) dsl_nil)))))
      · have hF := ite_f c9 hF
        refine at_skip ?_
        refine atn_seq ?_
        exact w47 (.p1 i) _ hF _ _ rfl
    · have hF := ite_f c6 hF
      refine xd_off rfl c6 rfl ?_
      refine xd_off rfl c6 rfl ?_
      refine xd_off rfl c6 rfl ?_
      refine xd_off rfl c6 rfl ?_
      refine xd_off rfl c6 rfl ?_
      refine xd rfl (e_pick_f (v := AV.bool false) rfl c6 rfl) ?_
      refine atd_nil ?_
      refine ato_nil ?_
      refine atn_seq ?_
      refine at_cond_f (x := C47_7) (y := C47_10) rfl rfl ?_
      refine at_skip ?_
      refine atn_seq ?_
      exact w47 (.p1 i) _ hF _ _ rfl
  · have hF := ite_f c1 hF
    refine xd_off rfl c1 rfl ?_
    refine xd_off rfl c1 rfl ?_
    refine xd_off rfl c1 rfl ?_
    refine xd_off rfl c1 rfl ?_
    refine xd_off rfl c1 rfl ?_
    refine xd_off rfl c1 rfl ?_
    refine xd_off rfl c1 rfl ?_
    refine xd_off rfl c1 rfl ?_
    refine xd_off rfl c1 rfl ?_
    refine xd rfl (e_pick_f (v := AV.bool false) rfl c1 rfl) ?_
    refine xd rfl (e_mv' (v := AV.bool false) rfl) ?_
    refine xd_off rfl rfl rfl ?_
    refine xd_off rfl rfl rfl ?_
    refine xd_off rfl rfl rfl ?_
    refine xd_off rfl rfl rfl ?_
    refine xd_off rfl rfl rfl ?_
    refine xd rfl (e_pick_f (v := AV.bool false) rfl rfl rfl) ?_
    refine atd_nil ?_
    refine ato_nil ?_
    refine atn_seq ?_
    refine at_cond_f (x := C47_7) (y := C47_10) rfl rfl ?_
    refine at_skip ?_
    refine atn_seq ?_
    exact w47 (.p1 i) _ hF _ _ rfl
/-! ### 48: paddock/paddockref07.element -/
def O48_2 : List AOp := [⟨(.some 4), .none, (.plain (.mv (.c (.int .u8 0))))⟩, ⟨(.some 5), .none, (.plain (.mv (.c (.int .i64 0))))⟩, ⟨(.some 6), .none, (.plain (.mv (.c (.bool false))))⟩]
def C48_2 : ACode := .ops O48_2
def O48_6 : List AOp := [⟨(.some 8), .none, (.plain (.mv (.t 0)))⟩, ⟨(.some 9), .none, (.plain (.mv (.t 1)))⟩, ⟨(.some 10), .none, (.call 45 [(.t 8), (.t 9)])⟩, ⟨(.some 11), .none, (.plain (.binI .eql (.t 10) (.c (.int .u8 46))))⟩, ⟨(.some 7), .none, (.plain (.mv (.t 11)))⟩]
def C48_6 : ACode := .ops O48_6
def O48_9_1 : List AOp := ⟨(.some 6), .none, (.plain (.mv (.t 17)))⟩ :: []
def O48_9 : List AOp := ⟨(.some 12), .none, (.plain (.mv (.t 0)))⟩ :: ⟨(.some 13), .none, (.plain (.mv (.t 1)))⟩ :: ⟨(.some 14), .none, (.call 47 [(.t 12), (.t 13)])⟩ :: ⟨(.some 15), .none, (.plain (.extract (.t 14) 0))⟩ :: ⟨(.some 16), .none, (.plain (.extract (.t 14) 1))⟩ :: ⟨(.some 17), .none, (.plain (.extract (.t 14) 2))⟩ :: ⟨(.some 4), .none, (.plain (.mv (.t 15)))⟩ :: ⟨(.some 5), .none, (.plain (.mv (.t 16)))⟩ :: O48_9_1
def C48_9 : ACode := .ops O48_9
def C48_10 : ACode := .ret
def C48_8 : ACode := .seq C48_9 C48_10
def O48_12 : List AOp := [⟨(.some 19), .none, (.plain (.mv (.t 0)))⟩, ⟨(.some 20), .none, (.plain (.mv (.t 1)))⟩, ⟨(.some 21), .none, (.call 45 [(.t 19), (.t 20)])⟩, ⟨(.some 22), .none, (.plain (.binI .neq (.t 21) (.c (.int .u8 0))))⟩, ⟨(.some 18), .none, (.plain (.mv (.t 22)))⟩]
def C48_12 : ACode := .ops O48_12
def O48_15 : List AOp := [⟨(.some 23), .none, (.plain (.mv (.t 1)))⟩, ⟨(.some 4), .none, (.plain (.mv (.c (.int .u8 0))))⟩, ⟨(.some 5), .none, (.plain (.mv (.t 23)))⟩, ⟨(.some 6), .none, (.plain (.mv (.c (.bool false))))⟩]
def C48_15 : ACode := .ops O48_15
def C48_16 : ACode := .ret
def C48_14 : ACode := .seq C48_15 C48_16
def O48_18_2 : List AOp := ⟨(.some 41), (.some (36, true)), (.plain (.binI .eql (.t 40) (.c (.int .u8 110))))⟩ :: ⟨(.some 42), .none, (.plain (.pick (.t 36) (.t 41) (.c (.bool false))))⟩ :: ⟨(.some 24), .none, (.plain (.mv (.t 42)))⟩ :: []
def O48_18_1 : List AOp := ⟨(.some 33), (.some (30, true)), (.plain (.ixS (.t 31) (.t 32)))⟩ :: ⟨(.some 34), (.some (30, true)), (.plain (.binI .eql (.t 33) (.c (.int .u8 92))))⟩ :: ⟨(.some 35), .none, (.plain (.pick (.t 30) (.t 34) (.c (.bool false))))⟩ :: ⟨(.some 36), .none, (.plain (.mv (.t 35)))⟩ :: ⟨(.some 37), (.some (36, true)), (.plain (.mv (.t 0)))⟩ :: ⟨(.some 38), (.some (36, true)), (.plain (.mv (.t 1)))⟩ :: ⟨(.some 39), (.some (36, true)), (.plain (.binI .add (.t 38) (.c (.int .i64 1))))⟩ :: ⟨(.some 40), (.some (36, true)), (.plain (.ixS (.t 37) (.t 39)))⟩ :: O48_18_2
def O48_18 : List AOp := ⟨(.some 25), .none, (.plain (.mv (.t 1)))⟩ :: ⟨(.some 26), .none, (.plain (.binI .add (.t 25) (.c (.int .i64 1))))⟩ :: ⟨(.some 27), .none, (.plain (.mv (.t 0)))⟩ :: ⟨(.some 28), .none, (.plain (.lenS (.t 27)))⟩ :: ⟨(.some 29), .none, (.plain (.binI .lss (.t 26) (.t 28)))⟩ :: ⟨(.some 30), .none, (.plain (.mv (.t 29)))⟩ :: ⟨(.some 31), (.some (30, true)), (.plain (.mv (.t 0)))⟩ :: ⟨(.some 32), (.some (30, true)), (.plain (.mv (.t 1)))⟩ :: O48_18_1
def C48_18 : ACode := .ops O48_18
def O48_21 : List AOp := [⟨(.some 43), .none, (.plain (.mv (.t 1)))⟩, ⟨(.some 44), .none, (.plain (.binI .add (.t 43) (.c (.int .i64 2))))⟩, ⟨(.some 4), .none, (.plain (.mv (.c (.int .u8 10))))⟩, ⟨(.some 5), .none, (.plain (.mv (.t 44)))⟩, ⟨(.some 6), .none, (.plain (.mv (.c (.bool true))))⟩]
def C48_21 : ACode := .ops O48_21
def C48_22 : ACode := .ret
def C48_20 : ACode := .seq C48_21 C48_22
def C48_23 : ACode := .skip
def C48_19 : ACode := .cond (.t 24) C48_20 C48_23
def C48_17 : ACode := .seq C48_18 C48_19
def C48_13 : ACode := .cond (.t 18) C48_14 C48_17
def C48_11 : ACode := .seq C48_12 C48_13
def C48_7 : ACode := .cond (.t 7) C48_8 C48_11
def C48_5 : ACode := .seq C48_6 C48_7
def C48_4 : ACode := .block 0 C48_5
def O48_25 : List AOp := [⟨(.some 45), .none, (.plain (.mv (.t 0)))⟩, ⟨(.some 46), .none, (.plain (.mv (.t 1)))⟩, ⟨(.some 47), .none, (.plain (.ixS (.t 45) (.t 46)))⟩, ⟨(.some 48), .none, (.plain (.mv (.t 1)))⟩, ⟨(.some 49), .none, (.plain (.binI .add (.t 48) (.c (.int .i64 1))))⟩, ⟨(.some 4), .none, (.plain (.mv (.t 47)))⟩, ⟨(.some 5), .none, (.plain (.mv (.t 49)))⟩, ⟨(.some 6), .none, (.plain (.mv (.c (.bool true))))⟩]
def C48_25 : ACode := .ops O48_25
def C48_26 : ACode := .ret
def C48_24 : ACode := .seq C48_25 C48_26
def C48_3 : ACode := .seq C48_4 C48_24
def C48_1 : ACode := .seq C48_2 C48_3
def R48 : List RA := [(.tmp 4), (.tmp 5), (.tmp 6)]
theorem k48 : compF Try.prog (muL []) 48 = some ⟨50, C48_1, R48⟩ := by kernel_rfl
noncomputable def X48 (r : Int × Int × Bool) : Cx := ⟨Try.prog, noG, 50, muL [], R48, isD (fun x => x = AV.tup [AV.int .u8 r.1, AV.int .i64 r.2.1, AV.bool r.2.2])⟩
inductive St48 where
  | p1 (s : Str) (i : Int)
noncomputable def G48 : St48 → Option (Int × Int × Bool)
  | .p1 s i =>
    (ix s i >>= fun b16 =>
      (some ((b16.toNat : Int), IntKind.wrap .i64 (i + 1), true)))
def M48 (x : St48) (r : Int × Int × Bool) : Prop := match x with
  | .p1 s i => ∀ (tm : Fr) (st : Store), tm 0 = AV.str s → tm 1 = AV.int .i64 i → At (X48 r) C48_24 [] tm st
theorem w48 : ∀ (x : St48) (r : Int × Int × Bool), G48 x = some r → M48 x r := by
  intro x r hF
  cases x with
  | p1 s i =>
    dsimp only [G48] at hF
    intro tm st h0 h1
    refine at_seq (a := C48_25) (b := C48_26) ?_
    refine at_ops (l := O48_25) ?_
    refine xo (e_mv' (v := AV.str s) h0) ?_
    refine xo (e_mv' (v := AV.int .i64 i) h1) ?_
    obtain ⟨b16, g17, hF⟩ := bind_some hF
    refine xo (e_ixS rfl rfl g17) ?_
    refine xo (e_mv' (v := AV.int .i64 i) h1) ?_
    refine xo (e_bin (v := .int .i64 (IntKind.wrap .i64 (i + 1))) rfl rfl rfl) ?_
    refine xo (e_mv' (v := AV.int .u8 (b16.toNat : Int)) rfl) ?_
    refine xo (e_mv' (v := AV.int .i64 (IntKind.wrap .i64 (i + 1))) rfl) ?_
    refine xo (e_mv' (v := AV.bool true) rfl) ?_
    refine ato_nil ?_
    refine atn_seq ?_
    refine at_ret ?_
    cases hF
    exact atr (rl_tmp rfl (rl_tmp rfl (rl_tmp rfl rl_nil))) (isd (ds_tup (dsl_cons (ds_eq rfl ds_i) (dsl_cons (ds_eq rfl ds_i) (dsl_cons (ds_eq rfl ds_b) dsl_nil)))))
noncomputable def F48 (s : Str) (i : Int) : Option (Int × Int × Bool) :=
  (F45 s i >>= fun r1 =>
    (if (r1 == 46) = true then
      (F47 s i >>= fun r4 =>
        (some (r4.1, r4.2.1, r4.2.2)))
    else
      (F45 s i >>= fun r6 =>
        (if (r6 != 0) = true then
          (some (0, i, false))
        else
          (if (decide ((IntKind.wrap .i64 (i + 1)) < ((s).length : Int))) = true then
            (ix s i >>= fun b10 =>
              (if ((b10.toNat : Int) == 92) = true then
                (ix s (IntKind.wrap .i64 (i + 1)) >>= fun b13 =>
                  (if ((b13.toNat : Int) == 110) = true then
                    (some (10, IntKind.wrap .i64 (i + 2), true))
                  else
                    (G48 (.p1 s i))))
              else
                (G48 (.p1 s i))))
          else
            (G48 (.p1 s i)))))))
theorem d48 (s : Str) (i : Int) (r : Int × Int × Bool) (hF : F48 s i = some r) : DFun Try.prog noG 48 [AV.str s, AV.int .i64 i] (AV.tup [AV.int .u8 r.1, AV.int .i64 r.2.1, AV.bool r.2.2]) := by
  unfold F48 at hF
  refine dfun_at k48 (Nat.le_of_ble_eq_true rfl) ?_
  show At (X48 r) _ _ _ _
  refine at_seq (a := C48_2) (b := C48_3) ?_
  refine at_ops (l := O48_2) ?_
  refine xo (e_mv' (v := AV.int .u8 0) rfl) ?_
  refine xo (e_mv' (v := AV.int .i64 0) rfl) ?_
  refine xo (e_mv' (v := AV.bool false) rfl) ?_
  refine ato_nil ?_
  refine atn_seq ?_
  refine at_seq (a := C48_4) (b := C48_24) ?_
  refine at_block (x := C48_5) ?_
  refine at_seq (a := C48_6) (b := C48_7) ?_
  refine at_ops (l := O48_6) ?_
  refine xo (e_mv' (v := AV.str s) rfl) ?_
  refine xo (e_mv' (v := AV.int .i64 i) rfl) ?_
  obtain ⟨r1, g2, hF⟩ := bind_some hF
  refine xo_dfun' (d45 s i _ g2) (dsl_cons (ds_eq rfl ds_s) (dsl_cons (ds_eq rfl ds_i) dsl_nil)) ?_
  refine xo (e_bin (v := .bool ((r1 == 46))) rfl rfl rfl) ?_
  refine xo (e_mv' (v := AV.bool (r1 == 46)) rfl) ?_
  refine ato_nil ?_
  refine atn_seq ?_
  refine at_cond (x := C48_8) (y := C48_11) rfl (fun c3 => ?_) (fun c3 => ?_)
  · have hF := ite_t c3 hF
    refine at_seq (a := C48_9) (b := C48_10) ?_
    refine at_ops (l := O48_9) ?_
    refine xo (e_mv' (v := AV.str s) rfl) ?_
    refine xo (e_mv' (v := AV.int .i64 i) rfl) ?_
    obtain ⟨r4, g5, hF⟩ := bind_some hF
    refine xo_dfun' (d47 s i _ g5) (dsl_cons (ds_eq rfl ds_s) (dsl_cons (ds_eq rfl ds_i) dsl_nil)) ?_
    refine xo (e_extract (v := AV.int .u8 r4.1) rfl rfl) ?_
    refine xo (e_extract (v := AV.int .i64 r4.2.1) rfl rfl) ?_
    refine xo (e_extract (v := AV.bool r4.2.2) rfl rfl) ?_
    refine xo (e_mv' (v := AV.int .u8 r4.1) rfl) ?_
    refine xo (e_mv' (v := AV.int .i64 r4.2.1) rfl) ?_
    refine xo (e_mv' (v := AV.bool r4.2.2) rfl) ?_
    refine ato_nil ?_
    refine atn_seq ?_
    refine at_ret ?_
    cases hF
    exact atr (rl_tmp rfl (rl_tmp rfl (rl_tmp rfl rl_nil))) (isd (ds_tup (dsl_cons (ds_eq rfl ds_i) (dsl_cons (ds_eq rfl ds_i) (dsl_cons (ds_eq rfl ds_b) dsl_nil)))))
  · have hF := ite_f c3 hF
    refine at_seq (a := C48_12) (b := C48_13) ?_
    refine at_ops (l := O48_12) ?_
    refine xo (e_mv' (v := AV.str s) rfl) ?_
    refine xo (e_mv' (v := AV.int .i64 i) rfl) ?_
    obtain ⟨r6, g7, hF⟩ := bind_some hF
    refine xo_dfun' (d45 s i _ g7) (dsl_cons (ds_eq rfl ds_s) (dsl_cons (ds_eq rfl ds_i) dsl_nil)) ?_
    refine xo (e_bin (v := .bool ((r6 != 0))) rfl rfl rfl) ?_
    refine xo (e_mv' (v := AV.bool (r6 != 0)) rfl) ?_
    refine ato_nil ?_
    refine atn_seq ?_
    refine at_cond (x := C48_14) (y := C48_17) rfl (fun c8 => ?_) (fun c8 => ?_)
    · have hF := ite_t c8 hF
      refine at_seq (a := C48_15) (b := C48_16) ?_
      refine at_ops (l := O48_15) ?_
      refine xo (e_mv' (v := AV.int .i64 i) rfl) ?_
      refine xo (e_mv' (v := AV.int .u8 0) rfl) ?_
      refine xo (e_mv' (v := AV.int .i64 i) rfl) ?_
      refine xo (e_mv' (v := AV.bool false) rfl) ?_
      refine ato_nil ?_
      refine atn_seq ?_
      refine at_ret ?_
      cases hF
      exact atr (rl_tmp rfl (rl_tmp rfl (rl_tmp rfl rl_nil))) (isd (ds_tup (dsl_cons (ds_eq rfl ds_i) (dsl_cons (ds_eq rfl ds_i) (dsl_cons (ds_eq rfl ds_b) dsl_nil)))))
    · have hF := ite_f c8 hF
      refine at_seq (a := C48_18) (b := C48_19) ?_
      refine at_ops (l := O48_18) ?_
      refine xo (e_mv' (v := AV.int .i64 i) rfl) ?_
      refine xo (e_bin (v := .int .i64 (IntKind.wrap .i64 (i + 1))) rfl rfl rfl) ?_
      refine xo (e_mv' (v := AV.str s) rfl) ?_
      refine xo (e_lenS rfl) ?_
      refine xo (e_bin (v := .bool (decide ((IntKind.wrap .i64 (i + 1)) < ((s).length : Int)))) rfl rfl rfl) ?_
      refine xo (e_mv' (v := AV.bool (decide ((IntKind.wrap .i64 (i + 1)) < ((s).length : Int)))) rfl) ?_
      refine bsplit (b := decide ((IntKind.wrap .i64 (i + 1)) < ((s).length : Int))) (fun c9 => ?_) (fun c9 => ?_)
      · have hF := ite_t c9 hF
        refine xo_on rfl c9 ?_
        refine xo (e_mv' (v := AV.str s) rfl) ?_
        refine xo_on rfl c9 ?_
        refine xo (e_mv' (v := AV.int .i64 i) rfl) ?_
        obtain ⟨b10, g11, hF⟩ := bind_some hF
        refine xo_on rfl c9 ?_
        refine xo (e_ixS rfl rfl g11) ?_
        refine xo_on rfl c9 ?_
        refine xo (e_bin (v := .bool (((b10.toNat : Int) == 92))) rfl rfl rfl) ?_
        refine xo (e_pick_t (v := AV.bool ((b10.toNat : Int) == 92)) rfl c9 rfl) ?_
        refine xo (e_mv' (v := AV.bool ((b10.toNat : Int) == 92)) rfl) ?_
        refine bsplit (b := ((b10.toNat : Int) == 92)) (fun c12 => ?_) (fun c12 => ?_)
        · have hF := ite_t c12 hF
          refine xo_on rfl c12 ?_
          refine xo (e_mv' (v := AV.str s) rfl) ?_
          refine xo_on rfl c12 ?_
          refine xo (e_mv' (v := AV.int .i64 i) rfl) ?_
          refine xo_on rfl c12 ?_
          refine xo (e_bin (v := .int .i64 (IntKind.wrap .i64 (i + 1))) rfl rfl rfl) ?_
          obtain ⟨b13, g14, hF⟩ := bind_some hF
          refine xo_on rfl c12 ?_
          refine xo (e_ixS rfl rfl g14) ?_
          refine xo_on rfl c12 ?_
          refine xo (e_bin (v := .bool (((b13.toNat : Int) == 110))) rfl rfl rfl) ?_
          refine xo (e_pick_t (v := AV.bool ((b13.toNat : Int) == 110)) rfl c12 rfl) ?_
          refine xo (e_mv' (v := AV.bool ((b13.toNat : Int) == 110)) rfl) ?_
          refine ato_nil ?_
          refine atn_seq ?_
          refine at_cond (x := C48_20) (y := C48_23) rfl (fun c15 => ?_) (fun c15 => ?_)
          · have hF := ite_t c15 hF
            refine at_seq (a := C48_21) (b := C48_22) ?_
            refine at_ops (l := O48_21) ?_
            refine xo (e_mv' (v := AV.int .i64 i) rfl) ?_
            refine xo (e_bin (v := .int .i64 (IntKind.wrap .i64 (i + 2))) rfl rfl rfl) ?_
            refine xo (e_mv' (v := AV.int .u8 10) rfl) ?_
            refine xo (e_mv' (v := AV.int .i64 (IntKind.wrap .i64 (i + 2))) rfl) ?_
            refine xo (e_mv' (v := AV.bool true) rfl) ?_
            refine ato_nil ?_
            refine atn_seq ?_
            refine at_ret ?_
            cases hF
            exact atr (rl_tmp rfl (rl_tmp rfl (rl_tmp rfl rl_nil))) (isd (ds_tup (dsl_cons (ds_eq rfl ds_i) (dsl_cons (ds_eq rfl ds_i) (dsl_cons (ds_eq rfl ds_b) dsl_nil)))))
          · have hF := ite_f c15 hF
            refine at_skip ?_
            refine atn_blk ?_
            refine atn_seq ?_
            exact w48 (.p1 s i) _ hF _ _ rfl rfl
        · have hF := ite_f c12 hF
          refine xo_off rfl c12 ?_
          refine xo_off rfl c12 ?_
          refine xo_off rfl c12 ?_
          refine xo_off rfl c12 ?_
          refine xo_off rfl c12 ?_
          refine xo (e_pick_f (v := AV.bool false) rfl c12 rfl) ?_
          refine xo (e_mv' (v := AV.bool false) rfl) ?_
          refine ato_nil ?_
          refine atn_seq ?_
          refine at_cond_f (x := C48_20) (y := C48_23) rfl rfl ?_
          refine at_skip ?_
          refine atn_blk ?_
          refine atn_seq ?_
          exact w48 (.p1 s i) _ hF _ _ rfl rfl
      · have hF := ite_f c9 hF
        refine xo_off rfl c9 ?_
        refine xo_off rfl c9 ?_
        refine xo_off rfl c9 ?_
        refine xo_off rfl c9 ?_
        refine xo (e_pick_f (v := AV.bool false) rfl c9 rfl) ?_
        refine xo (e_mv' (v := AV.bool false) rfl) ?_
        refine xo_off rfl rfl ?_
        refine xo_off rfl rfl ?_
        refine xo_off rfl rfl ?_
        refine xo_off rfl rfl ?_
        refine xo_off rfl rfl ?_
        refine xo (e_pick_f (v := AV.bool false) rfl rfl rfl) ?_
        refine xo (e_mv' (v := AV.bool false) rfl) ?_
        refine ato_nil ?_
        refine atn_seq ?_
        refine at_cond_f (x := C48_20) (y := C48_23) rfl rfl ?_
        refine at_skip ?_
        refine atn_blk ?_
        refine atn_seq ?_
        exact w48 (.p1 s i) _ hF _ _ rfl rfl
/-! ### 10: paddock/paddockref07.Class -/
def O10_2 : List AOp := [⟨(.some 2), .none, (.plain (.alloc [(.int .u64 0), (.int .u64 0), (.int .u64 0), (.int .u64 0)]))⟩, ⟨(.some 3), .none, (.plain (.mv (.c (.bool false))))⟩]
def C10_2 : ACode := .ops O10_2
def O10_4_1 : List AOp := ⟨.none, .none, (.plain (.store 4 (.t 6) (.t 11)))⟩ :: []
def O10_4 : List AOp := ⟨(.some 9), .none, (.call 21 [(.c (.int .u8 65)), (.c (.int .u8 90))])⟩ :: ⟨(.some 10), .none, (.call 21 [(.c (.int .u8 97)), (.c (.int .u8 122))])⟩ :: ⟨(.some 11), .none, (.call 21 [(.c (.int .u8 48)), (.c (.int .u8 57))])⟩ :: ⟨(.some 4), .none, (.plain (.alloc [(.int .u64 0), (.int .u64 0), (.int .u64 0), (.int .u64 0)]))⟩ :: ⟨(.some 5), .none, (.plain (.alloc [(.int .u64 0), (.int .u64 0), (.int .u64 0), (.int .u64 0)]))⟩ :: ⟨(.some 6), .none, (.plain (.alloc [(.int .u64 0), (.int .u64 0), (.int .u64 0), (.int .u64 0)]))⟩ :: ⟨.none, .none, (.plain (.store 4 (.t 4) (.t 9)))⟩ :: ⟨.none, .none, (.plain (.store 4 (.t 5) (.t 10)))⟩ :: O10_4_1
def C10_4 : ACode := .ops O10_4
def Q10_6 : List AOp := [⟨(.some 12), .none, (.plain (.loadN 4 (.t 4)))⟩, ⟨(.some 13), .none, (.plain (.loadN 4 (.t 5)))⟩, ⟨(.some 14), .none, (.call 28 [(.t 12), (.t 13)])⟩, ⟨(.some 15), .none, (.plain (.loadN 4 (.t 6)))⟩, ⟨(.some 16), .none, (.call 28 [(.t 14), (.t 15)])⟩, ⟨(.some 7), .none, (.plain (.alloc [(.int .u64 0), (.int .u64 0), (.int .u64 0), (.int .u64 0)]))⟩]
def S10_6 : List AOp := [⟨.none, .none, (.plain (.store 4 (.t 7) (.t 16)))⟩]
def C10_6 : ACode := .draw [] 0 1 Q10_6 S10_6
def O10_8 : List AOp := [⟨(.some 17), .none, (.call 21 [(.c (.int .u8 33)), (.c (.int .u8 126))])⟩, ⟨(.some 8), .none, (.plain (.alloc [(.int .u64 0), (.int .u64 0), (.int .u64 0), (.int .u64 0)]))⟩, ⟨.none, .none, (.plain (.store 4 (.t 8) (.t 17)))⟩]
def C10_8 : ACode := .ops O10_8
def O10_11 : List AOp := [⟨(.some 18), .none, (.plain (.mv (.t 0)))⟩]
def C10_11 : ACode := .ops O10_11
def O10_14 : List AOp := [⟨(.some 20), .none, (.plain (.binS .eql (.t 18) (.c (.str [117, 112, 112, 101, 114]))))⟩, ⟨(.some 19), .none, (.plain (.mv (.t 20)))⟩]
def C10_14 : ACode := .ops O10_14
def O10_17 : List AOp := [⟨(.some 21), .none, (.plain (.loadN 4 (.t 4)))⟩, ⟨.none, .none, (.plain (.store 4 (.t 2) (.t 21)))⟩, ⟨(.some 3), .none, (.plain (.mv (.c (.bool true))))⟩]
def C10_17 : ACode := .ops O10_17
def C10_18 : ACode := .ret
def C10_16 : ACode := .seq C10_17 C10_18
def O10_20 : List AOp := [⟨(.some 23), .none, (.plain (.binS .eql (.t 18) (.c (.str [108, 111, 119, 101, 114]))))⟩, ⟨(.some 22), .none, (.plain (.mv (.t 23)))⟩]
def C10_20 : ACode := .ops O10_20
def O10_23 : List AOp := [⟨(.some 24), .none, (.plain (.loadN 4 (.t 5)))⟩, ⟨.none, .none, (.plain (.store 4 (.t 2) (.t 24)))⟩, ⟨(.some 3), .none, (.plain (.mv (.c (.bool true))))⟩]
def C10_23 : ACode := .ops O10_23
def C10_24 : ACode := .ret
def C10_22 : ACode := .seq C10_23 C10_24
def O10_26 : List AOp := [⟨(.some 26), .none, (.plain (.binS .eql (.t 18) (.c (.str [97, 108, 112, 104, 97]))))⟩, ⟨(.some 25), .none, (.plain (.mv (.t 26)))⟩]
def C10_26 : ACode := .ops O10_26
def O10_29 : List AOp := [⟨(.some 27), .none, (.plain (.loadN 4 (.t 4)))⟩, ⟨(.some 28), .none, (.plain (.loadN 4 (.t 5)))⟩, ⟨(.some 29), .none, (.call 28 [(.t 27), (.t 28)])⟩, ⟨.none, .none, (.plain (.store 4 (.t 2) (.t 29)))⟩, ⟨(.some 3), .none, (.plain (.mv (.c (.bool true))))⟩]
def C10_29 : ACode := .ops O10_29
def C10_30 : ACode := .ret
def C10_28 : ACode := .seq C10_29 C10_30
def O10_32 : List AOp := [⟨(.some 31), .none, (.plain (.binS .eql (.t 18) (.c (.str [100, 105, 103, 105, 116]))))⟩, ⟨(.some 30), .none, (.plain (.mv (.t 31)))⟩]
def C10_32 : ACode := .ops O10_32
def O10_35 : List AOp := [⟨(.some 32), .none, (.plain (.loadN 4 (.t 6)))⟩, ⟨.none, .none, (.plain (.store 4 (.t 2) (.t 32)))⟩, ⟨(.some 3), .none, (.plain (.mv (.c (.bool true))))⟩]
def C10_35 : ACode := .ops O10_35
def C10_36 : ACode := .ret
def C10_34 : ACode := .seq C10_35 C10_36
def O10_38 : List AOp := [⟨(.some 34), .none, (.plain (.binS .eql (.t 18) (.c (.str [97, 108, 110, 117, 109]))))⟩, ⟨(.some 33), .none, (.plain (.mv (.t 34)))⟩]
def C10_38 : ACode := .ops O10_38
def O10_41 : List AOp := [⟨(.some 35), .none, (.plain (.loadN 4 (.t 7)))⟩, ⟨.none, .none, (.plain (.store 4 (.t 2) (.t 35)))⟩, ⟨(.some 3), .none, (.plain (.mv (.c (.bool true))))⟩]
def C10_41 : ACode := .ops O10_41
def C10_42 : ACode := .ret
def C10_40 : ACode := .seq C10_41 C10_42
def O10_44 : List AOp := [⟨(.some 37), .none, (.plain (.binS .eql (.t 18) (.c (.str [120, 100, 105, 103, 105, 116]))))⟩, ⟨(.some 36), .none, (.plain (.mv (.t 37)))⟩]
def C10_44 : ACode := .ops O10_44
def Q10_47 : List AOp := [⟨(.some 38), .none, (.plain (.loadN 4 (.t 6)))⟩, ⟨(.some 39), .none, (.call 21 [(.c (.int .u8 65)), (.c (.int .u8 70))])⟩, ⟨(.some 40), .none, (.call 21 [(.c (.int .u8 97)), (.c (.int .u8 102))])⟩, ⟨(.some 41), .none, (.call 28 [(.t 39), (.t 40)])⟩, ⟨(.some 42), .none, (.call 28 [(.t 38), (.t 41)])⟩]
def S10_47 : List AOp := [⟨.none, .none, (.plain (.store 4 (.t 2) (.t 42)))⟩, ⟨(.some 3), .none, (.plain (.mv (.c (.bool true))))⟩]
def C10_47 : ACode := .draw [] 0 0 Q10_47 S10_47
def C10_48 : ACode := .ret
def C10_46 : ACode := .seq C10_47 C10_48
def O10_50 : List AOp := [⟨(.some 44), .none, (.plain (.binS .eql (.t 18) (.c (.str [98, 108, 97, 110, 107]))))⟩, ⟨(.some 43), .none, (.plain (.mv (.t 44)))⟩]
def C10_50 : ACode := .ops O10_50
def O10_53 : List AOp := [⟨(.some 45), .none, (.plain (.bslice 1 2 false [(.int .u8 0)] [(0, (1, (.c (.int .u8 32)))), (1, (1, (.c (.int .u8 9))))] false))⟩, ⟨(.some 46), .none, (.call 13 [(.t 45)])⟩, ⟨.none, .none, (.plain (.store 4 (.t 2) (.t 46)))⟩, ⟨(.some 3), .none, (.plain (.mv (.c (.bool true))))⟩]
def C10_53 : ACode := .ops O10_53
def C10_54 : ACode := .ret
def C10_52 : ACode := .seq C10_53 C10_54
def O10_56 : List AOp := [⟨(.some 48), .none, (.plain (.binS .eql (.t 18) (.c (.str [115, 112, 97, 99, 101]))))⟩, ⟨(.some 47), .none, (.plain (.mv (.t 48)))⟩]
def C10_56 : ACode := .ops O10_56
def O10_59 : List AOp := [⟨(.some 49), .none, (.call 21 [(.c (.int .u8 9)), (.c (.int .u8 13))])⟩, ⟨(.some 50), .none, (.call 35 [(.t 49), (.c (.int .u8 32))])⟩, ⟨.none, .none, (.plain (.store 4 (.t 2) (.t 50)))⟩, ⟨(.some 3), .none, (.plain (.mv (.c (.bool true))))⟩]
def C10_59 : ACode := .ops O10_59
def C10_60 : ACode := .ret
def C10_58 : ACode := .seq C10_59 C10_60
def O10_62 : List AOp := [⟨(.some 52), .none, (.plain (.binS .eql (.t 18) (.c (.str [99, 110, 116, 114, 108]))))⟩, ⟨(.some 51), .none, (.plain (.mv (.t 52)))⟩]
def C10_62 : ACode := .ops O10_62
def O10_65 : List AOp := [⟨(.some 53), .none, (.call 21 [(.c (.int .u8 0)), (.c (.int .u8 31))])⟩, ⟨(.some 54), .none, (.call 35 [(.t 53), (.c (.int .u8 127))])⟩, ⟨.none, .none, (.plain (.store 4 (.t 2) (.t 54)))⟩, ⟨(.some 3), .none, (.plain (.mv (.c (.bool true))))⟩]
def C10_65 : ACode := .ops O10_65
def C10_66 : ACode := .ret
def C10_64 : ACode := .seq C10_65 C10_66
def O10_68 : List AOp := [⟨(.some 56), .none, (.plain (.binS .eql (.t 18) (.c (.str [112, 114, 105, 110, 116]))))⟩, ⟨(.some 55), .none, (.plain (.mv (.t 56)))⟩]
def C10_68 : ACode := .ops O10_68
def O10_71 : List AOp := [⟨(.some 57), .none, (.plain (.loadN 4 (.t 8)))⟩, ⟨(.some 58), .none, (.call 35 [(.t 57), (.c (.int .u8 32))])⟩, ⟨.none, .none, (.plain (.store 4 (.t 2) (.t 58)))⟩, ⟨(.some 3), .none, (.plain (.mv (.c (.bool true))))⟩]
def C10_71 : ACode := .ops O10_71
def C10_72 : ACode := .ret
def C10_70 : ACode := .seq C10_71 C10_72
def O10_74 : List AOp := [⟨(.some 60), .none, (.plain (.binS .eql (.t 18) (.c (.str [103, 114, 97, 112, 104]))))⟩, ⟨(.some 59), .none, (.plain (.mv (.t 60)))⟩]
def C10_74 : ACode := .ops O10_74
def O10_77 : List AOp := [⟨(.some 61), .none, (.plain (.loadN 4 (.t 8)))⟩, ⟨.none, .none, (.plain (.store 4 (.t 2) (.t 61)))⟩, ⟨(.some 3), .none, (.plain (.mv (.c (.bool true))))⟩]
def C10_77 : ACode := .ops O10_77
def C10_78 : ACode := .ret
def C10_76 : ACode := .seq C10_77 C10_78
def O10_80 : List AOp := [⟨(.some 63), .none, (.plain (.binS .eql (.t 18) (.c (.str [112, 117, 110, 99, 116]))))⟩, ⟨(.some 62), .none, (.plain (.mv (.t 63)))⟩]
def C10_80 : ACode := .ops O10_80
def Q10_83 : List AOp := [⟨(.some 64), .none, (.plain (.loadN 4 (.t 8)))⟩, ⟨(.some 65), .none, (.plain (.loadN 4 (.t 7)))⟩, ⟨(.some 66), .none, (.call 30 [(.t 65)])⟩, ⟨(.some 67), .none, (.call 26 [(.t 64), (.t 66)])⟩]
def S10_83 : List AOp := [⟨.none, .none, (.plain (.store 4 (.t 2) (.t 67)))⟩, ⟨(.some 3), .none, (.plain (.mv (.c (.bool true))))⟩]
def C10_83 : ACode := .draw [] 0 0 Q10_83 S10_83
def C10_84 : ACode := .ret
def C10_82 : ACode := .seq C10_83 C10_84
def C10_85 : ACode := .skip
def C10_81 : ACode := .cond (.t 62) C10_82 C10_85
def C10_79 : ACode := .seq C10_80 C10_81
def C10_75 : ACode := .cond (.t 59) C10_76 C10_79
def C10_73 : ACode := .seq C10_74 C10_75
def C10_69 : ACode := .cond (.t 55) C10_70 C10_73
def C10_67 : ACode := .seq C10_68 C10_69
def C10_63 : ACode := .cond (.t 51) C10_64 C10_67
def C10_61 : ACode := .seq C10_62 C10_63
def C10_57 : ACode := .cond (.t 47) C10_58 C10_61
def C10_55 : ACode := .seq C10_56 C10_57
def C10_51 : ACode := .cond (.t 43) C10_52 C10_55
def C10_49 : ACode := .seq C10_50 C10_51
def C10_45 : ACode := .cond (.t 36) C10_46 C10_49
def C10_43 : ACode := .seq C10_44 C10_45
def C10_39 : ACode := .cond (.t 33) C10_40 C10_43
def C10_37 : ACode := .seq C10_38 C10_39
def C10_33 : ACode := .cond (.t 30) C10_34 C10_37
def C10_31 : ACode := .seq C10_32 C10_33
def C10_27 : ACode := .cond (.t 25) C10_28 C10_31
def C10_25 : ACode := .seq C10_26 C10_27
def C10_21 : ACode := .cond (.t 22) C10_22 C10_25
def C10_19 : ACode := .seq C10_20 C10_21
def C10_15 : ACode := .cond (.t 19) C10_16 C10_19
def C10_13 : ACode := .seq C10_14 C10_15
def C10_12 : ACode := .block 0 C10_13
def C10_10 : ACode := .seq C10_11 C10_12
def O10_87 : List AOp := [⟨(.some 68), .none, (.plain (.build [(.int .u64 0), (.int .u64 0), (.int .u64 0), (.int .u64 0)] []))⟩, ⟨.none, .none, (.plain (.store 4 (.t 2) (.t 68)))⟩, ⟨(.some 3), .none, (.plain (.mv (.c (.bool false))))⟩]
def C10_87 : ACode := .ops O10_87
def C10_88 : ACode := .ret
def C10_86 : ACode := .seq C10_87 C10_88
def C10_9 : ACode := .seq C10_10 C10_86
def C10_7 : ACode := .seq C10_8 C10_9
def C10_5 : ACode := .seq C10_6 C10_7
def C10_3 : ACode := .seq C10_4 C10_5
def C10_1 : ACode := .seq C10_2 C10_3
def R10 : List RA := [(.cellN 2 4), (.tmp 3)]
theorem k10 : compF Try.prog (muL []) 10 = some ⟨69, C10_1, R10⟩ := by kernel_rfl
noncomputable def X10 (r : Arr 4 Int × Bool) : Cx := ⟨Try.prog, noG, 69, muL [], R10, isD (fun x => x = AV.tup [AV.agg (c24 r.1), AV.bool r.2])⟩
noncomputable def F10 (name : Str) : Option (Arr 4 Int × Bool) :=
  (F21 65 90 >>= fun r7 =>
    (F21 97 122 >>= fun r9 =>
      (F21 48 57 >>= fun r11 =>
        (F28 r7 r9 >>= fun r69 =>
          (F28 r69 r11 >>= fun r71 =>
            (F21 33 126 >>= fun r94 =>
              (if (name == ([117, 112, 112, 101, 114] : Str)) = true then
                (some (r7, true))
              else
                (if (name == ([108, 111, 119, 101, 114] : Str)) = true then
                  (some (r9, true))
                else
                  (if (name == ([97, 108, 112, 104, 97] : Str)) = true then
                    (F28 r7 r9 >>= fun r129 =>
                      (some (r129, true)))
                  else
                    (if (name == ([100, 105, 103, 105, 116] : Str)) = true then
                      (some (r11, true))
                    else
                      (if (name == ([97, 108, 110, 117, 109] : Str)) = true then
                        (some (r71, true))
                      else
                        (if (name == ([120, 100, 105, 103, 105, 116] : Str)) = true then
                          (F21 65 70 >>= fun r143 =>
                            (F21 97 102 >>= fun r145 =>
                              (F28 r143 r145 >>= fun r147 =>
                                (F28 r11 r147 >>= fun r149 =>
                                  (some (r149, true))))))
                        else
                          (if (name == ([98, 108, 97, 110, 107] : Str)) = true then
                            (F13 (some ([32, 9] : List Int)) >>= fun r161 =>
                              (some (r161, true)))
                          else
                            (if (name == ([115, 112, 97, 99, 101] : Str)) = true then
                              (F21 9 13 >>= fun r167 =>
                                (F35 r167 32 >>= fun r169 =>
                                  (some (r169, true))))
                            else
                              (if (name == ([99, 110, 116, 114, 108] : Str)) = true then
                                (F21 0 31 >>= fun r175 =>
                                  (F35 r175 127 >>= fun r177 =>
                                    (some (r177, true))))
                              else
                                (if (name == ([112, 114, 105, 110, 116] : Str)) = true then
                                  (F35 r94 32 >>= fun r183 =>
                                    (some (r183, true)))
                                else
                                  (if (name == ([103, 114, 97, 112, 104] : Str)) = true then
                                    (some (r94, true))
                                  else
                                    (if (name == ([112, 117, 110, 99, 116] : Str)) = true then
                                      (F30 r71 >>= fun r193 =>
                                        (F26 r94 r193 >>= fun r195 =>
                                          (some (r195, true))))
                                    else
                                      (some ((Arr.rep 4 0), false))))))))))))))))))))
theorem d10 (name : Str) (r : Arr 4 Int × Bool) (hF : F10 name = some r) : DFun Try.prog noG 10 [AV.str name] (AV.tup [AV.agg (c24 r.1), AV.bool r.2]) := by
  unfold F10 at hF
  refine dfun_at k10 (Nat.le_of_ble_eq_true rfl) ?_
  show At (X10 r) _ _ _ _
  refine at_seq (a := C10_2) (b := C10_3) ?_
  refine at_ops (l := O10_2) ?_
  refine xo_alloc (cs := c24 (Arr.rep 4 0)) rfl fun s2 i3 o4 k5 q6 => ?_
  refine xo (e_mv' (v := AV.bool false) rfl) ?_
  refine ato_nil ?_
  refine atn_seq ?_
  refine at_seq (a := C10_4) (b := C10_5) ?_
  refine at_ops (l := O10_4) ?_
  obtain ⟨r7, g8, hF⟩ := bind_some hF
  refine xo_dfun' (d21 65 90 _ g8) (dsl_cons (ds_eq rfl ds_i) (dsl_cons (ds_eq rfl ds_i) dsl_nil)) ?_
  obtain ⟨r9, g10, hF⟩ := bind_some hF
  refine xo_dfun' (d21 97 122 _ g10) (dsl_cons (ds_eq rfl ds_i) (dsl_cons (ds_eq rfl ds_i) dsl_nil)) ?_
  obtain ⟨r11, g12, hF⟩ := bind_some hF
  refine xo_dfun' (d21 48 57 _ g12) (dsl_cons (ds_eq rfl ds_i) (dsl_cons (ds_eq rfl ds_i) dsl_nil)) ?_
  refine xo_alloc (cs := c24 (Arr.rep 4 0)) rfl fun s14 i15 o16 k17 q18 => ?_
  have n19 : i3 ≠ i15 := fun e => ne_new o4 (e.trans q18)
  have o20 := keep0 k17 o4
  refine xo_alloc (cs := c24 (Arr.rep 4 0)) rfl fun s22 i23 o24 k25 q26 => ?_
  have n27 : i3 ≠ i23 := fun e => ne_new o20 (e.trans q26)
  have n28 : i15 ≠ i23 := fun e => ne_new o16 (e.trans q26)
  have o29 := keep0 k25 o20
  have o30 := keep0 k25 o16
  refine xo_alloc (cs := c24 (Arr.rep 4 0)) rfl fun s32 i33 o34 k35 q36 => ?_
  have n37 : i3 ≠ i33 := fun e => ne_new o29 (e.trans q36)
  have n38 : i15 ≠ i33 := fun e => ne_new o30 (e.trans q36)
  have n39 : i23 ≠ i33 := fun e => ne_new o24 (e.trans q36)
  have o40 := keep0 k35 o29
  have o41 := keep0 k35 o30
  have o42 := keep0 k35 o24
  refine xo_store rfl o41 (LR.whole _ _) (c24_len _) rfl rfl (c24_len _) (c24_one _) fun s43 o44 k45 => ?_
  have o46 := k45 _ _ o40 n19
  have o47 := k45 _ _ o42 (Ne.symm n28)
  have o48 := k45 _ _ o34 (Ne.symm n38)
  refine xo_store rfl o47 (LR.whole _ _) (c24_len _) rfl rfl (c24_len _) (c24_one _) fun s49 o50 k51 => ?_
  have o52 := k51 _ _ o46 n27
  have o53 := k51 _ _ o44 n28
  have o54 := k51 _ _ o48 (Ne.symm n39)
  refine xo_store rfl o54 (LR.whole _ _) (c24_len _) rfl rfl (c24_len _) (c24_one _) fun s55 o56 k57 => ?_
  have o58 := k57 _ _ o52 n37
  have o59 := k57 _ _ o53 n38
  have o60 := k57 _ _ o50 n39
  refine ato_nil ?_
  refine atn_seq ?_
  refine at_seq (a := C10_6) (b := C10_7) ?_
  refine at_drawn (q := Q10_6) (suf := S10_6) fun s61 k62 u63 => ?_
  have o64 := keep0 k62 o58
  have o65 := keep0 k62 o59
  have o66 := keep0 k62 o60
  have o67 := keep0 k62 o56
  have w68 := u63 0 (by decide)
  refine xd rfl (e_loadN rfl o59 (LR.whole _ _) (c24_len _)) ?_
  refine xd rfl (e_loadN rfl o60 (LR.whole _ _) (c24_len _)) ?_
  obtain ⟨r69, g70, hF⟩ := bind_some hF
  refine xd_dfun' (d28 r7 r9 _ g70) (dsl_cons (ds_eq rfl (ds_agg (c24_ds _))) (dsl_cons (ds_eq rfl (ds_agg (c24_ds _))) dsl_nil)) ?_
  refine xd rfl (e_loadN rfl o56 (LR.whole _ _) (c24_len _)) ?_
  obtain ⟨r71, g72, hF⟩ := bind_some hF
  refine xd_dfun' (d28 r69 r11 _ g72) (dsl_cons (ds_eq rfl (ds_agg (c24_ds _))) (dsl_cons (ds_eq rfl (ds_agg (c24_ds _))) dsl_nil)) ?_
  refine xd_alloc (cs := c24 (Arr.rep 4 0)) rfl w68 fun s74 i75 q78 o76 k77 => ?_
  have n79 : i3 ≠ i75 := fun e => ne_new2 o58 (e.trans q78)
  have n80 : i15 ≠ i75 := fun e => ne_new2 o59 (e.trans q78)
  have n81 : i23 ≠ i75 := fun e => ne_new2 o60 (e.trans q78)
  have n82 : i33 ≠ i75 := fun e => ne_new2 o56 (e.trans q78)
  have o83 := k77 _ _ o64 (ne_new2 o58)
  have o84 := k77 _ _ o65 (ne_new2 o59)
  have o85 := k77 _ _ o66 (ne_new2 o60)
  have o86 := k77 _ _ o67 (ne_new2 o56)
  refine atd_nil ?_
  refine xo_store rfl o76 (LR.whole _ _) (c24_len _) rfl rfl (c24_len _) (c24_one _) fun s87 o88 k89 => ?_
  have o90 := k89 _ _ o83 n79
  have o91 := k89 _ _ o84 n80
  have o92 := k89 _ _ o85 n81
  have o93 := k89 _ _ o86 n82
  refine ato_nil ?_
  refine atn_seq ?_
  refine at_seq (a := C10_8) (b := C10_9) ?_
  refine at_ops (l := O10_8) ?_
  obtain ⟨r94, g95, hF⟩ := bind_some hF
  refine xo_dfun' (d21 33 126 _ g95) (dsl_cons (ds_eq rfl ds_i) (dsl_cons (ds_eq rfl ds_i) dsl_nil)) ?_
  refine xo_alloc (cs := c24 (Arr.rep 4 0)) rfl fun s97 i98 o99 k100 q101 => ?_
  have n102 : i3 ≠ i98 := fun e => ne_new o90 (e.trans q101)
  have n103 : i15 ≠ i98 := fun e => ne_new o91 (e.trans q101)
  have n104 : i23 ≠ i98 := fun e => ne_new o92 (e.trans q101)
  have n105 : i33 ≠ i98 := fun e => ne_new o93 (e.trans q101)
  have n106 : i75 ≠ i98 := fun e => ne_new o88 (e.trans q101)
  have o107 := keep0 k100 o90
  have o108 := keep0 k100 o91
  have o109 := keep0 k100 o92
  have o110 := keep0 k100 o93
  have o111 := keep0 k100 o88
  refine xo_store rfl o99 (LR.whole _ _) (c24_len _) rfl rfl (c24_len _) (c24_one _) fun s112 o113 k114 => ?_
  have o115 := k114 _ _ o107 n102
  have o116 := k114 _ _ o108 n103
  have o117 := k114 _ _ o109 n104
  have o118 := k114 _ _ o110 n105
  have o119 := k114 _ _ o111 n106
  refine ato_nil ?_
  refine atn_seq ?_
  refine at_seq (a := C10_10) (b := C10_86) ?_
  refine at_seq (a := C10_11) (b := C10_12) ?_
  refine at_ops (l := O10_11) ?_
  refine xo (e_mv' (v := AV.str name) rfl) ?_
  refine ato_nil ?_
  refine atn_seq ?_
  refine at_block (x := C10_13) ?_
  refine at_seq (a := C10_14) (b := C10_15) ?_
  refine at_ops (l := O10_14) ?_
  refine xo (e_str (v := .bool (name == ([117, 112, 112, 101, 114] : Str))) rfl rfl rfl) ?_
  refine xo (e_mv' (v := AV.bool (name == ([117, 112, 112, 101, 114] : Str))) rfl) ?_
  refine ato_nil ?_
  refine atn_seq ?_
  refine at_cond (x := C10_16) (y := C10_19) rfl (fun c120 => ?_) (fun c120 => ?_)
  · have hF := ite_t c120 hF
    refine at_seq (a := C10_17) (b := C10_18) ?_
    refine at_ops (l := O10_17) ?_
    refine xo (e_loadN rfl o116 (LR.whole _ _) (c24_len _)) ?_
    refine xo_store rfl o115 (LR.whole _ _) (c24_len _) rfl rfl (c24_len _) (c24_one _) fun s121 o122 k123 => ?_
    refine xo (e_mv' (v := AV.bool true) rfl) ?_
    refine ato_nil ?_
    refine atn_seq ?_
    refine at_ret ?_
    cases hF
    exact atr (rl_cellN rfl o122 (LR.whole _ _) (c24_len _) (rl_tmp rfl rl_nil)) (isd (ds_tup (dsl_cons (ds_eq rfl (ds_agg (c24_ds _))) (dsl_cons (ds_eq rfl ds_b) dsl_nil))))
  · have hF := ite_f c120 hF
    refine at_seq (a := C10_20) (b := C10_21) ?_
    refine at_ops (l := O10_20) ?_
    refine xo (e_str (v := .bool (name == ([108, 111, 119, 101, 114] : Str))) rfl rfl rfl) ?_
    refine xo (e_mv' (v := AV.bool (name == ([108, 111, 119, 101, 114] : Str))) rfl) ?_
    refine ato_nil ?_
    refine atn_seq ?_
    refine at_cond (x := C10_22) (y := C10_25) rfl (fun c124 => ?_) (fun c124 => ?_)
    · have hF := ite_t c124 hF
      refine at_seq (a := C10_23) (b := C10_24) ?_
      refine at_ops (l := O10_23) ?_
      refine xo (e_loadN rfl o117 (LR.whole _ _) (c24_len _)) ?_
      refine xo_store rfl o115 (LR.whole _ _) (c24_len _) rfl rfl (c24_len _) (c24_one _) fun s125 o126 k127 => ?_
      refine xo (e_mv' (v := AV.bool true) rfl) ?_
      refine ato_nil ?_
      refine atn_seq ?_
      refine at_ret ?_
      cases hF
      exact atr (rl_cellN rfl o126 (LR.whole _ _) (c24_len _) (rl_tmp rfl rl_nil)) (isd (ds_tup (dsl_cons (ds_eq rfl (ds_agg (c24_ds _))) (dsl_cons (ds_eq rfl ds_b) dsl_nil))))
    · have hF := ite_f c124 hF
      refine at_seq (a := C10_26) (b := C10_27) ?_
      refine at_ops (l := O10_26) ?_
      refine xo (e_str (v := .bool (name == ([97, 108, 112, 104, 97] : Str))) rfl rfl rfl) ?_
      refine xo (e_mv' (v := AV.bool (name == ([97, 108, 112, 104, 97] : Str))) rfl) ?_
      refine ato_nil ?_
      refine atn_seq ?_
      refine at_cond (x := C10_28) (y := C10_31) rfl (fun c128 => ?_) (fun c128 => ?_)
      · have hF := ite_t c128 hF
        refine at_seq (a := C10_29) (b := C10_30) ?_
        refine at_ops (l := O10_29) ?_
        refine xo (e_loadN rfl o116 (LR.whole _ _) (c24_len _)) ?_
        refine xo (e_loadN rfl o117 (LR.whole _ _) (c24_len _)) ?_
        obtain ⟨r129, g130, hF⟩ := bind_some hF
        refine xo_dfun' (d28 r7 r9 _ g130) (dsl_cons (ds_eq rfl (ds_agg (c24_ds _))) (dsl_cons (ds_eq rfl (ds_agg (c24_ds _))) dsl_nil)) ?_
        refine xo_store rfl o115 (LR.whole _ _) (c24_len _) rfl rfl (c24_len _) (c24_one _) fun s131 o132 k133 => ?_
        refine xo (e_mv' (v := AV.bool true) rfl) ?_
        refine ato_nil ?_
        refine atn_seq ?_
        refine at_ret ?_
        cases hF
        exact atr (rl_cellN rfl o132 (LR.whole _ _) (c24_len _) (rl_tmp rfl rl_nil)) (isd (ds_tup (dsl_cons (ds_eq rfl (ds_agg (c24_ds _))) (dsl_cons (ds_eq rfl ds_b) dsl_nil))))
      · have hF := ite_f c128 hF
        refine at_seq (a := C10_32) (b := C10_33) ?_
        refine at_ops (l := O10_32) ?_
        refine xo (e_str (v := .bool (name == ([100, 105, 103, 105, 116] : Str))) rfl rfl rfl) ?_
        refine xo (e_mv' (v := AV.bool (name == ([100, 105, 103, 105, 116] : Str))) rfl) ?_
        refine ato_nil ?_
        refine atn_seq ?_
        refine at_cond (x := C10_34) (y := C10_37) rfl (fun c134 => ?_) (fun c134 => ?_)
        · have hF := ite_t c134 hF
          refine at_seq (a := C10_35) (b := C10_36) ?_
          refine at_ops (l := O10_35) ?_
          refine xo (e_loadN rfl o118 (LR.whole _ _) (c24_len _)) ?_
          refine xo_store rfl o115 (LR.whole _ _) (c24_len _) rfl rfl (c24_len _) (c24_one _) fun s135 o136 k137 => ?_
          refine xo (e_mv' (v := AV.bool true) rfl) ?_
          refine ato_nil ?_
          refine atn_seq ?_
          refine at_ret ?_
          cases hF
          exact atr (rl_cellN rfl o136 (LR.whole _ _) (c24_len _) (rl_tmp rfl rl_nil)) (isd (ds_tup (dsl_cons (ds_eq rfl (ds_agg (c24_ds _))) (dsl_cons (ds_eq rfl ds_b) dsl_nil))))
        · have hF := ite_f c134 hF
          refine at_seq (a := C10_38) (b := C10_39) ?_
          refine at_ops (l := O10_38) ?_
          refine xo (e_str (v := .bool (name == ([97, 108, 110, 117, 109] : Str))) rfl rfl rfl) ?_
          refine xo (e_mv' (v := AV.bool (name == ([97, 108, 110, 117, 109] : Str))) rfl) ?_
          refine ato_nil ?_
          refine atn_seq ?_
          refine at_cond (x := C10_40) (y := C10_43) rfl (fun c138 => ?_) (fun c138 => ?_)
          · have hF := ite_t c138 hF
            refine at_seq (a := C10_41) (b := C10_42) ?_
            refine at_ops (l := O10_41) ?_
            refine xo (e_loadN rfl o119 (LR.whole _ _) (c24_len _)) ?_
            refine xo_store rfl o115 (LR.whole _ _) (c24_len _) rfl rfl (c24_len _) (c24_one _) fun s139 o140 k141 => ?_
            refine xo (e_mv' (v := AV.bool true) rfl) ?_
            refine ato_nil ?_
            refine atn_seq ?_
            refine at_ret ?_
            cases hF
            exact atr (rl_cellN rfl o140 (LR.whole _ _) (c24_len _) (rl_tmp rfl rl_nil)) (isd (ds_tup (dsl_cons (ds_eq rfl (ds_agg (c24_ds _))) (dsl_cons (ds_eq rfl ds_b) dsl_nil))))
          · have hF := ite_f c138 hF
            refine at_seq (a := C10_44) (b := C10_45) ?_
            refine at_ops (l := O10_44) ?_
            refine xo (e_str (v := .bool (name == ([120, 100, 105, 103, 105, 116] : Str))) rfl rfl rfl) ?_
            refine xo (e_mv' (v := AV.bool (name == ([120, 100, 105, 103, 105, 116] : Str))) rfl) ?_
            refine ato_nil ?_
            refine atn_seq ?_
            refine at_cond (x := C10_46) (y := C10_49) rfl (fun c142 => ?_) (fun c142 => ?_)
            · have hF := ite_t c142 hF
              refine at_seq (a := C10_47) (b := C10_48) ?_
              refine at_draw0 (q := Q10_47) (suf := S10_47) ?_
              refine xd rfl (e_loadN rfl o118 (LR.whole _ _) (c24_len _)) ?_
              obtain ⟨r143, g144, hF⟩ := bind_some hF
              refine xd_dfun' (d21 65 70 _ g144) (dsl_cons (ds_eq rfl ds_i) (dsl_cons (ds_eq rfl ds_i) dsl_nil)) ?_
              obtain ⟨r145, g146, hF⟩ := bind_some hF
              refine xd_dfun' (d21 97 102 _ g146) (dsl_cons (ds_eq rfl ds_i) (dsl_cons (ds_eq rfl ds_i) dsl_nil)) ?_
              obtain ⟨r147, g148, hF⟩ := bind_some hF
              refine xd_dfun' (d28 r143 r145 _ g148) (dsl_cons (ds_eq rfl (ds_agg (c24_ds _))) (dsl_cons (ds_eq rfl (ds_agg (c24_ds _))) dsl_nil)) ?_
              obtain ⟨r149, g150, hF⟩ := bind_some hF
              refine xd_dfun' (d28 r11 r147 _ g150) (dsl_cons (ds_eq rfl (ds_agg (c24_ds _))) (dsl_cons (ds_eq rfl (ds_agg (c24_ds _))) dsl_nil)) ?_
              refine atd_nil ?_
              refine xo_store rfl o115 (LR.whole _ _) (c24_len _) rfl rfl (c24_len _) (c24_one _) fun s151 o152 k153 => ?_
              refine xo (e_mv' (v := AV.bool true) rfl) ?_
              refine ato_nil ?_
              refine atn_seq ?_
              refine at_ret ?_
              cases hF
              exact atr (rl_cellN rfl o152 (LR.whole _ _) (c24_len _) (rl_tmp rfl rl_nil)) (isd (ds_tup (dsl_cons (ds_eq rfl (ds_agg (c24_ds _))) (dsl_cons (ds_eq rfl ds_b) dsl_nil))))
            · have hF := ite_f c142 hF
              refine at_seq (a := C10_50) (b := C10_51) ?_
              refine at_ops (l := O10_50) ?_
              refine xo (e_str (v := .bool (name == ([98, 108, 97, 110, 107] : Str))) rfl rfl rfl) ?_
              refine xo (e_mv' (v := AV.bool (name == ([98, 108, 97, 110, 107] : Str))) rfl) ?_
              refine ato_nil ?_
              refine atn_seq ?_
              refine at_cond (x := C10_52) (y := C10_55) rfl (fun c154 => ?_) (fun c154 => ?_)
              · have hF := ite_t c154 hF
                refine at_seq (a := C10_53) (b := C10_54) ?_
                refine at_ops (l := O10_53) ?_
                refine xo_bslice (f := AV.int .u8) (m := ([32, 9] : List Int)) (pk_cons (cs := (cI .u8) 32) rfl rfl ((cI_len .u8) _) (by decide) (pk_cons (cs := (cI .u8) 9) rfl rfl ((cI_len .u8) _) (by decide) pk_nil)) rfl rfl rfl fun s155 i156 o157 k158 q159 => ?_
                have o160 := keep0 k158 o115
                obtain ⟨r161, g162, hF⟩ := bind_some hF
                refine xo_dfun' (d13 (some ([32, 9] : List Int)) _ g162) (dsl_cons (ds_rd (fun _ => ds_i) (rd_T rfl)) dsl_nil) ?_
                refine xo_store rfl o160 (LR.whole _ _) (c24_len _) rfl rfl (c24_len _) (c24_one _) fun s163 o164 k165 => ?_
                refine xo (e_mv' (v := AV.bool true) rfl) ?_
                refine ato_nil ?_
                refine atn_seq ?_
                refine at_ret ?_
                cases hF
                exact atr (rl_cellN rfl o164 (LR.whole _ _) (c24_len _) (rl_tmp rfl rl_nil)) (isd (ds_tup (dsl_cons (ds_eq rfl (ds_agg (c24_ds _))) (dsl_cons (ds_eq rfl ds_b) dsl_nil))))
              · have hF := ite_f c154 hF
                refine at_seq (a := C10_56) (b := C10_57) ?_
                refine at_ops (l := O10_56) ?_
                refine xo (e_str (v := .bool (name == ([115, 112, 97, 99, 101] : Str))) rfl rfl rfl) ?_
                refine xo (e_mv' (v := AV.bool (name == ([115, 112, 97, 99, 101] : Str))) rfl) ?_
                refine ato_nil ?_
                refine atn_seq ?_
                refine at_cond (x := C10_58) (y := C10_61) rfl (fun c166 => ?_) (fun c166 => ?_)
                · have hF := ite_t c166 hF
                  refine at_seq (a := C10_59) (b := C10_60) ?_
                  refine at_ops (l := O10_59) ?_
                  obtain ⟨r167, g168, hF⟩ := bind_some hF
                  refine xo_dfun' (d21 9 13 _ g168) (dsl_cons (ds_eq rfl ds_i) (dsl_cons (ds_eq rfl ds_i) dsl_nil)) ?_
                  obtain ⟨r169, g170, hF⟩ := bind_some hF
                  refine xo_dfun' (d35 r167 32 _ g170) (dsl_cons (ds_eq rfl (ds_agg (c24_ds _))) (dsl_cons (ds_eq rfl ds_i) dsl_nil)) ?_
                  refine xo_store rfl o115 (LR.whole _ _) (c24_len _) rfl rfl (c24_len _) (c24_one _) fun s171 o172 k173 => ?_
                  refine xo (e_mv' (v := AV.bool true) rfl) ?_
                  refine ato_nil ?_
                  refine atn_seq ?_
                  refine at_ret ?_
                  cases hF
                  exact atr (rl_cellN rfl o172 (LR.whole _ _) (c24_len _) (rl_tmp rfl rl_nil)) (isd (ds_tup (dsl_cons (ds_eq rfl (ds_agg (c24_ds _))) (dsl_cons (ds_eq rfl ds_b) dsl_nil))))
                · have hF := ite_f c166 hF
                  refine at_seq (a := C10_62) (b := C10_63) ?_
                  refine at_ops (l := O10_62) ?_
                  refine xo (e_str (v := .bool (name == ([99, 110, 116, 114, 108] : Str))) rfl rfl rfl) ?_
                  refine xo (e_mv' (v := AV.bool (name == ([99, 110, 116, 114, 108] : Str))) rfl) ?_
                  refine ato_nil ?_
                  refine atn_seq ?_
                  refine at_cond (x := C10_64) (y := C10_67) rfl (fun c174 => ?_) (fun c174 => ?_)
                  · have hF := ite_t c174 hF
                    refine at_seq (a := C10_65) (b := C10_66) ?_
                    refine at_ops (l := O10_65) ?_
                    obtain ⟨r175, g176, hF⟩ := bind_some hF
                    refine xo_dfun' (d21 0 31 _ g176) (dsl_cons (ds_eq rfl ds_i) (dsl_cons (ds_eq rfl ds_i) dsl_nil)) ?_
                    obtain ⟨r177, g178, hF⟩ := bind_some hF
                    refine xo_dfun' (d35 r175 127 _ g178) (dsl_cons (ds_eq rfl (ds_agg (c24_ds _))) (dsl_cons (ds_eq rfl ds_i) dsl_nil)) ?_
                    refine xo_store rfl o115 (LR.whole _ _) (c24_len _) rfl rfl (c24_len _) (c24_one _) fun s179 o180 k181 => ?_
                    refine xo (e_mv' (v := AV.bool true) rfl) ?_
                    refine ato_nil ?_
                    refine atn_seq ?_
                    refine at_ret ?_
                    cases hF
                    exact atr (rl_cellN rfl o180 (LR.whole _ _) (c24_len _) (rl_tmp rfl rl_nil)) (isd (ds_tup (dsl_cons (ds_eq rfl (ds_agg (c24_ds _))) (dsl_cons (ds_eq rfl ds_b) dsl_nil))))
                  · have hF := ite_f c174 hF
                    refine at_seq (a := C10_68) (b := C10_69) ?_
                    refine at_ops (l := O10_68) ?_
                    refine xo (e_str (v := .bool (name == ([112, 114, 105, 110, 116] : Str))) rfl rfl rfl) ?_
                    refine xo (e_mv' (v := AV.bool (name == ([112, 114, 105, 110, 116] : Str))) rfl) ?_
                    refine ato_nil ?_
                    refine atn_seq ?_
                    refine at_cond (x := C10_70) (y := C10_73) rfl (fun c182 => ?_) (fun c182 => ?_)
                    · have hF := ite_t c182 hF
                      refine at_seq (a := C10_71) (b := C10_72) ?_
                      refine at_ops (l := O10_71) ?_
                      refine xo (e_loadN rfl o113 (LR.whole _ _) (c24_len _)) ?_
                      obtain ⟨r183, g184, hF⟩ := bind_some hF
                      refine xo_dfun' (d35 r94 32 _ g184) (dsl_cons (ds_eq rfl (ds_agg (c24_ds _))) (dsl_cons (ds_eq rfl ds_i) dsl_nil)) ?_
                      refine xo_store rfl o115 (LR.whole _ _) (c24_len _) rfl rfl (c24_len _) (c24_one _) fun s185 o186 k187 => ?_
                      refine xo (e_mv' (v := AV.bool true) rfl) ?_
                      refine ato_nil ?_
                      refine atn_seq ?_
                      refine at_ret ?_
                      cases hF
                      exact atr (rl_cellN rfl o186 (LR.whole _ _) (c24_len _) (rl_tmp rfl rl_nil)) (isd (ds_tup (dsl_cons (ds_eq rfl (ds_agg (c24_ds _))) (dsl_cons (ds_eq rfl ds_b) dsl_nil))))
                    · have hF := ite_f c182 hF
                      refine at_seq (a := C10_74) (b := C10_75) ?_
                      refine at_ops (l := O10_74) ?_
                      refine xo (e_str (v := .bool (name == ([103, 114, 97, 112, 104] : Str))) rfl rfl rfl) ?_
                      refine xo (e_mv' (v := AV.bool (name == ([103, 114, 97, 112, 104] : Str))) rfl) ?_
                      refine ato_nil ?_
                      refine atn_seq ?_
                      refine at_cond (x := C10_76) (y := C10_79) rfl (fun c188 => ?_) (fun c188 => ?_)
                      · have hF := ite_t c188 hF
                        refine at_seq (a := C10_77) (b := C10_78) ?_
                        refine at_ops (l := O10_77) ?_
                        refine xo (e_loadN rfl o113 (LR.whole _ _) (c24_len _)) ?_
                        refine xo_store rfl o115 (LR.whole _ _) (c24_len _) rfl rfl (c24_len _) (c24_one _) fun s189 o190 k191 => ?_
                        refine xo (e_mv' (v := AV.bool true) rfl) ?_
                        refine ato_nil ?_
                        refine atn_seq ?_
                        refine at_ret ?_
                        cases hF
                        exact atr (rl_cellN rfl o190 (LR.whole _ _) (c24_len _) (rl_tmp rfl rl_nil)) (isd (ds_tup (dsl_cons (ds_eq rfl (ds_agg (c24_ds _))) (dsl_cons (ds_eq rfl ds_b) dsl_nil))))
                      · have hF := ite_f c188 hF
                        refine at_seq (a := C10_80) (b := C10_81) ?_
                        refine at_ops (l := O10_80) ?_
                        refine xo (e_str (v := .bool (name == ([112, 117, 110, 99, 116] : Str))) rfl rfl rfl) ?_
                        refine xo (e_mv' (v := AV.bool (name == ([112, 117, 110, 99, 116] : Str))) rfl) ?_
                        refine ato_nil ?_
                        refine atn_seq ?_
                        refine at_cond (x := C10_82) (y := C10_85) rfl (fun c192 => ?_) (fun c192 => ?_)
                        · have hF := ite_t c192 hF
                          refine at_seq (a := C10_83) (b := C10_84) ?_
                          refine at_draw0 (q := Q10_83) (suf := S10_83) ?_
                          refine xd rfl (e_loadN rfl o113 (LR.whole _ _) (c24_len _)) ?_
                          refine xd rfl (e_loadN rfl o119 (LR.whole _ _) (c24_len _)) ?_
                          obtain ⟨r193, g194, hF⟩ := bind_some hF
                          refine xd_dfun' (d30 r71 _ g194) (dsl_cons (ds_eq rfl (ds_agg (c24_ds _))) dsl_nil) ?_
                          obtain ⟨r195, g196, hF⟩ := bind_some hF
                          refine xd_dfun' (d26 r94 r193 _ g196) (dsl_cons (ds_eq rfl (ds_agg (c24_ds _))) (dsl_cons (ds_eq rfl (ds_agg (c24_ds _))) dsl_nil)) ?_
                          refine atd_nil ?_
                          refine xo_store rfl o115 (LR.whole _ _) (c24_len _) rfl rfl (c24_len _) (c24_one _) fun s197 o198 k199 => ?_
                          refine xo (e_mv' (v := AV.bool true) rfl) ?_
                          refine ato_nil ?_
                          refine atn_seq ?_
                          refine at_ret ?_
                          cases hF
                          exact atr (rl_cellN rfl o198 (LR.whole _ _) (c24_len _) (rl_tmp rfl rl_nil)) (isd (ds_tup (dsl_cons (ds_eq rfl (ds_agg (c24_ds _))) (dsl_cons (ds_eq rfl ds_b) dsl_nil))))
                        · have hF := ite_f c192 hF
                          refine at_skip ?_
                          refine atn_blk ?_
                          refine atn_seq ?_
                          refine at_seq (a := C10_87) (b := C10_88) ?_
                          refine at_ops (l := O10_87) ?_
                          refine xo (e_build (z := [(.int .u64 0), (.int .u64 0), (.int .u64 0), (.int .u64 0)]) (cs := c24 (Arr.rep 4 0)) pk_nil (show fillA (c24 (Arr.rep 4 0)) _ = _ from (fl_nil _))) ?_
                          refine xo_store rfl o115 (LR.whole _ _) (c24_len _) rfl rfl (c24_len _) (c24_one _) fun s200 o201 k202 => ?_
                          refine xo (e_mv' (v := AV.bool false) rfl) ?_
                          refine ato_nil ?_
                          refine atn_seq ?_
                          refine at_ret ?_
                          cases hF
                          exact atr (rl_cellN rfl o201 (LR.whole _ _) (c24_len _) (rl_tmp rfl rl_nil)) (isd (ds_tup (dsl_cons (ds_eq rfl (ds_agg (c24_ds _))) (dsl_cons (ds_eq rfl ds_b) dsl_nil))))
/-! ### 46: paddock/paddockref07.class -/
def O46_2 : List AOp := [⟨(.some 4), .none, (.plain (.alloc [(.int .u64 0), (.int .u64 0), (.int .u64 0), (.int .u64 0)]))⟩, ⟨(.some 5), .none, (.plain (.mv (.c (.int .i64 0))))⟩, ⟨(.some 6), .none, (.plain (.mv (.c (.bool false))))⟩]
def C46_2 : ACode := .ops O46_2
def O46_5 : List AOp := [⟨(.some 10), .none, (.plain (.mv (.t 1)))⟩, ⟨(.some 11), .none, (.plain (.binI .add (.t 10) (.c (.int .i64 2))))⟩, ⟨(.some 7), .none, (.plain (.mv (.t 11)))⟩]
def C46_5 : ACode := .ops O46_5
def O46_10 : List AOp := [⟨(.some 12), .none, (.plain (.mv (.t 7)))⟩, ⟨(.some 13), .none, (.plain (.binI .add (.t 12) (.c (.int .i64 1))))⟩, ⟨(.some 14), .none, (.plain (.mv (.t 0)))⟩, ⟨(.some 15), .none, (.plain (.lenS (.t 14)))⟩, ⟨(.some 16), .none, (.plain (.binI .lss (.t 13) (.t 15)))⟩]
def C46_10 : ACode := .ops O46_10
def C46_12 : ACode := .skip
def C46_13 : ACode := .exit 0
def C46_11 : ACode := .cond (.t 16) C46_12 C46_13
def C46_9 : ACode := .seq C46_10 C46_11
def O46_17_1 : List AOp := ⟨(.some 27), (.some (23, true)), (.plain (.ixS (.t 24) (.t 26)))⟩ :: ⟨(.some 28), (.some (23, true)), (.plain (.binI .eql (.t 27) (.c (.int .u8 93))))⟩ :: ⟨(.some 29), .none, (.plain (.pick (.t 23) (.t 28) (.c (.bool false))))⟩ :: []
def O46_17 : List AOp := ⟨(.some 19), .none, (.plain (.mv (.t 0)))⟩ :: ⟨(.some 20), .none, (.plain (.mv (.t 7)))⟩ :: ⟨(.some 21), .none, (.plain (.ixS (.t 19) (.t 20)))⟩ :: ⟨(.some 22), .none, (.plain (.binI .eql (.t 21) (.c (.int .u8 58))))⟩ :: ⟨(.some 23), .none, (.plain (.mv (.t 22)))⟩ :: ⟨(.some 24), (.some (23, true)), (.plain (.mv (.t 0)))⟩ :: ⟨(.some 25), (.some (23, true)), (.plain (.mv (.t 7)))⟩ :: ⟨(.some 26), (.some (23, true)), (.plain (.binI .add (.t 25) (.c (.int .i64 1))))⟩ :: O46_17_1
def C46_17 : ACode := .ops O46_17
def O46_20_1 : List AOp := ⟨(.some 38), .none, (.plain (.extract (.t 30) 1))⟩ :: ⟨(.some 8), .none, (.plain (.alloc [(.int .u64 0), (.int .u64 0), (.int .u64 0), (.int .u64 0)]))⟩ :: ⟨.none, .none, (.plain (.store 4 (.t 8) (.t 37)))⟩ :: ⟨(.some 9), .none, (.plain (.mv (.t 38)))⟩ :: []
def O46_20 : List AOp := ⟨(.some 31), .none, (.plain (.mv (.t 0)))⟩ :: ⟨(.some 32), .none, (.plain (.mv (.t 1)))⟩ :: ⟨(.some 33), .none, (.plain (.binI .add (.t 32) (.c (.int .i64 2))))⟩ :: ⟨(.some 34), .none, (.plain (.mv (.t 7)))⟩ :: ⟨(.some 35), .none, (.plain (.slS (.t 31) (.some (.t 33)) (.some (.t 34))))⟩ :: ⟨(.some 36), .none, (.call 10 [(.t 35)])⟩ :: ⟨(.some 30), .none, (.plain (.mv (.t 36)))⟩ :: ⟨(.some 37), .none, (.plain (.extract (.t 30) 0))⟩ :: O46_20_1
def C46_20 : ACode := .ops O46_20
def O46_22 : List AOp := [⟨(.some 39), .none, (.plain (.loadN 4 (.t 8)))⟩, ⟨(.some 40), .none, (.plain (.mv (.t 7)))⟩, ⟨(.some 41), .none, (.plain (.binI .add (.t 40) (.c (.int .i64 2))))⟩, ⟨(.some 42), .none, (.plain (.mv (.t 9)))⟩, ⟨.none, .none, (.plain (.store 4 (.t 4) (.t 39)))⟩, ⟨(.some 5), .none, (.plain (.mv (.t 41)))⟩, ⟨(.some 6), .none, (.plain (.mv (.t 42)))⟩]
def C46_22 : ACode := .ops O46_22
def C46_23 : ACode := .ret
def C46_21 : ACode := .seq C46_22 C46_23
def C46_19 : ACode := .seq C46_20 C46_21
def C46_24 : ACode := .skip
def C46_18 : ACode := .cond (.t 29) C46_19 C46_24
def C46_16 : ACode := .seq C46_17 C46_18
def C46_15 : ACode := .block 1 C46_16
def O46_25 : List AOp := [⟨(.some 17), .none, (.plain (.mv (.t 7)))⟩, ⟨(.some 18), .none, (.plain (.binI .add (.t 17) (.c (.int .i64 1))))⟩, ⟨(.some 7), .none, (.plain (.mv (.t 18)))⟩]
def C46_25 : ACode := .ops O46_25
def C46_14 : ACode := .seq C46_15 C46_25
def C46_8 : ACode := .seq C46_9 C46_14
def C46_7 : ACode := .loop C46_8
def C46_6 : ACode := .block 0 C46_7
def C46_4 : ACode := .seq C46_5 C46_6
def O46_27 : List AOp := [⟨(.some 43), .none, (.plain (.build [(.int .u64 0), (.int .u64 0), (.int .u64 0), (.int .u64 0)] []))⟩, ⟨(.some 44), .none, (.plain (.mv (.t 1)))⟩, ⟨.none, .none, (.plain (.store 4 (.t 4) (.t 43)))⟩, ⟨(.some 5), .none, (.plain (.mv (.t 44)))⟩, ⟨(.some 6), .none, (.plain (.mv (.c (.bool false))))⟩]
def C46_27 : ACode := .ops O46_27
def C46_28 : ACode := .ret
def C46_26 : ACode := .seq C46_27 C46_28
def C46_3 : ACode := .seq C46_4 C46_26
def C46_1 : ACode := .seq C46_2 C46_3
def R46 : List RA := [(.cellN 4 4), (.tmp 5), (.tmp 6)]
theorem k46 : compF Try.prog (muL []) 46 = some ⟨45, C46_1, R46⟩ := by kernel_rfl
noncomputable def X46 (r : Arr 4 Int × Int × Bool) : Cx := ⟨Try.prog, noG, 45, muL [], R46, isD (fun x => x = AV.tup [AV.agg (c24 r.1), AV.int .i64 r.2.1, AV.bool r.2.2])⟩
inductive St46 where
  | p1 (s : Str) (i : Int) (k : Int) (t4 : Arr 4 Int)
noncomputable def G46 : St46 → Option (Arr 4 Int × Int × Bool)
  | .p1 s i k t4 =>
    (if (decide ((IntKind.wrap .i64 (k + 1)) < ((s).length : Int))) = true then
      (ix s k >>= fun b8 =>
        (if ((b8.toNat : Int) == 58) = true then
          (ix s (IntKind.wrap .i64 (k + 1)) >>= fun b11 =>
            (if ((b11.toNat : Int) == 93) = true then
              (strcut s (IntKind.wrap .i64 (i + 2)) k >>= fun w14 =>
                (F10 w14 >>= fun r16 =>
                  (some (r16.1, IntKind.wrap .i64 (k + 2), r16.2))))
            else
              (G46 (.p1 s i (IntKind.wrap .i64 (k + 1)) t4))))
        else
          (G46 (.p1 s i (IntKind.wrap .i64 (k + 1)) t4))))
    else
      (some ((Arr.rep 4 0), i, false)))
  partial_fixpoint
def M46 (x : St46) (r : Arr 4 Int × Int × Bool) : Prop := match x with
  | .p1 s i k t4 => ∀ (tm : Fr) (st : Store) (i0 : Nat), tm 0 = AV.str s → tm 1 = AV.int .i64 i → tm 4 = .ptr i0 0 → tm 7 = AV.int .i64 k → st[i0]? = some (.cells (c24 t4)) → AtL (X46 r) C46_8 [.blk 0, .seq C46_26] tm st
theorem w46 : ∀ (x : St46) (r : Arr 4 Int × Int × Bool), G46 x = some r → M46 x r := by
  refine G46.partial_correctness M46 ?_
  intro g ih x r hF
  cases x with
  | p1 s i k t4 =>
    dsimp only at hF
    intro tm st i0 h0 h1 h4 h7 o0
    refine atl_once ?_
    refine at_seq (a := C46_9) (b := C46_14) ?_
    refine at_seq (a := C46_10) (b := C46_11) ?_
    refine at_ops (l := O46_10) ?_
    refine xo (e_mv' (v := AV.int .i64 k) h7) ?_
    refine xo (e_bin (v := .int .i64 (IntKind.wrap .i64 (k + 1))) rfl rfl rfl) ?_
    refine xo (e_mv' (v := AV.str s) h0) ?_
    refine xo (e_lenS rfl) ?_
    refine xo (e_bin (v := .bool (decide ((IntKind.wrap .i64 (k + 1)) < ((s).length : Int)))) rfl rfl rfl) ?_
    refine ato_nil ?_
    refine atn_seq ?_
    refine at_cond (x := C46_12) (y := C46_13) rfl (fun c7 => ?_) (fun c7 => ?_)
    · have hF := ite_t c7 hF
      refine at_skip ?_
      refine atn_seq ?_
      refine at_seq (a := C46_15) (b := C46_25) ?_
      refine at_block (x := C46_16) ?_
      refine at_seq (a := C46_17) (b := C46_18) ?_
      refine at_ops (l := O46_17) ?_
      refine xo (e_mv' (v := AV.str s) h0) ?_
      refine xo (e_mv' (v := AV.int .i64 k) h7) ?_
      obtain ⟨b8, g9, hF⟩ := bind_some hF
      refine xo (e_ixS rfl rfl g9) ?_
      refine xo (e_bin (v := .bool (((b8.toNat : Int) == 58))) rfl rfl rfl) ?_
      refine xo (e_mv' (v := AV.bool ((b8.toNat : Int) == 58)) rfl) ?_
      refine bsplit (b := ((b8.toNat : Int) == 58)) (fun c10 => ?_) (fun c10 => ?_)
      · have hF := ite_t c10 hF
        refine xo_on rfl c10 ?_
        refine xo (e_mv' (v := AV.str s) h0) ?_
        refine xo_on rfl c10 ?_
        refine xo (e_mv' (v := AV.int .i64 k) h7) ?_
        refine xo_on rfl c10 ?_
        refine xo (e_bin (v := .int .i64 (IntKind.wrap .i64 (k + 1))) rfl rfl rfl) ?_
        obtain ⟨b11, g12, hF⟩ := bind_some hF
        refine xo_on rfl c10 ?_
        refine xo (e_ixS rfl rfl g12) ?_
        refine xo_on rfl c10 ?_
        refine xo (e_bin (v := .bool (((b11.toNat : Int) == 93))) rfl rfl rfl) ?_
        refine xo (e_pick_t (v := AV.bool ((b11.toNat : Int) == 93)) rfl c10 rfl) ?_
        refine ato_nil ?_
        refine atn_seq ?_
        refine at_cond (x := C46_19) (y := C46_24) rfl (fun c13 => ?_) (fun c13 => ?_)
        · have hF := ite_t c13 hF
          refine at_seq (a := C46_20) (b := C46_21) ?_
          refine at_ops (l := O46_20) ?_
          refine xo (e_mv' (v := AV.str s) h0) ?_
          refine xo (e_mv' (v := AV.int .i64 i) h1) ?_
          refine xo (e_bin (v := .int .i64 (IntKind.wrap .i64 (i + 2))) rfl rfl rfl) ?_
          refine xo (e_mv' (v := AV.int .i64 k) h7) ?_
          obtain ⟨w14, g15, hF⟩ := bind_some hF
          refine xo (e_slS2 rfl rfl rfl g15) ?_
          obtain ⟨r16, g17, hF⟩ := bind_some hF
          refine xo_dfun' (d10 w14 _ g17) (dsl_cons (ds_eq rfl ds_s) dsl_nil) ?_
          refine xo (e_mv' (v := AV.tup [AV.agg (c24 r16.1), AV.bool r16.2]) rfl) ?_
          refine xo (e_extract (v := AV.agg (c24 r16.1)) rfl rfl) ?_
          refine xo (e_extract (v := AV.bool r16.2) rfl rfl) ?_
          refine xo_alloc (cs := c24 (Arr.rep 4 0)) rfl fun s19 i20 o21 k22 q23 => ?_
          have n24 : i0 ≠ i20 := fun e => ne_new o0 (e.trans q23)
          have o25 := keep0 k22 o0
          refine xo_store rfl o21 (LR.whole _ _) (c24_len _) rfl rfl (c24_len _) (c24_one _) fun s26 o27 k28 => ?_
          have o29 := k28 _ _ o25 n24
          refine xo (e_mv' (v := AV.bool r16.2) rfl) ?_
          refine ato_nil ?_
          refine atn_seq ?_
          refine at_seq (a := C46_22) (b := C46_23) ?_
          refine at_ops (l := O46_22) ?_
          refine xo (e_loadN rfl o27 (LR.whole _ _) (c24_len _)) ?_
          refine xo (e_mv' (v := AV.int .i64 k) h7) ?_
          refine xo (e_bin (v := .int .i64 (IntKind.wrap .i64 (k + 2))) rfl rfl rfl) ?_
          refine xo (e_mv' (v := AV.bool r16.2) rfl) ?_
          refine xo_store h4 o29 (LR.whole _ _) (c24_len _) rfl rfl (c24_len _) (c24_one _) fun s30 o31 k32 => ?_
          refine xo (e_mv' (v := AV.int .i64 (IntKind.wrap .i64 (k + 2))) rfl) ?_
          refine xo (e_mv' (v := AV.bool r16.2) rfl) ?_
          refine ato_nil ?_
          refine atn_seq ?_
          refine at_ret ?_
          cases hF
          exact atr (rl_cellN h4 o31 (LR.whole _ _) (c24_len _) (rl_tmp rfl (rl_tmp rfl rl_nil))) (isd (ds_tup (dsl_cons (ds_eq rfl (ds_agg (c24_ds _))) (dsl_cons (ds_eq rfl ds_i) (dsl_cons (ds_eq rfl ds_b) dsl_nil)))))
        · have hF := ite_f c13 hF
          refine at_skip ?_
          refine atn_blk ?_
          refine atn_seq ?_
          refine at_ops (l := O46_25) ?_
          refine xo (e_mv' (v := AV.int .i64 k) h7) ?_
          refine xo (e_bin (v := .int .i64 (IntKind.wrap .i64 (k + 1))) rfl rfl rfl) ?_
          refine xo (e_mv' (v := AV.int .i64 (IntKind.wrap .i64 (k + 1))) rfl) ?_
          refine ato_nil ?_
          refine atn_lp ?_
          exact ih (.p1 s i (IntKind.wrap .i64 (k + 1)) t4) _ hF _ _ _ h0 h1 h4 rfl o0
      · have hF := ite_f c10 hF
        refine xo_off rfl c10 ?_
        refine xo_off rfl c10 ?_
        refine xo_off rfl c10 ?_
        refine xo_off rfl c10 ?_
        refine xo_off rfl c10 ?_
        refine xo (e_pick_f (v := AV.bool false) rfl c10 rfl) ?_
        refine ato_nil ?_
        refine atn_seq ?_
        refine at_cond_f (x := C46_19) (y := C46_24) rfl rfl ?_
        refine at_skip ?_
        refine atn_blk ?_
        refine atn_seq ?_
        refine at_ops (l := O46_25) ?_
        refine xo (e_mv' (v := AV.int .i64 k) h7) ?_
        refine xo (e_bin (v := .int .i64 (IntKind.wrap .i64 (k + 1))) rfl rfl rfl) ?_
        refine xo (e_mv' (v := AV.int .i64 (IntKind.wrap .i64 (k + 1))) rfl) ?_
        refine ato_nil ?_
        refine atn_lp ?_
        exact ih (.p1 s i (IntKind.wrap .i64 (k + 1)) t4) _ hF _ _ _ h0 h1 h4 rfl o0
    · have hF := ite_f c7 hF
      refine at_exit ?_
      refine atx (k' := [.seq C46_26]) rfl ?_
      refine atn_seq ?_
      refine at_seq (a := C46_27) (b := C46_28) ?_
      refine at_ops (l := O46_27) ?_
      refine xo (e_build (z := [(.int .u64 0), (.int .u64 0), (.int .u64 0), (.int .u64 0)]) (cs := c24 (Arr.rep 4 0)) pk_nil (show fillA (c24 (Arr.rep 4 0)) _ = _ from (fl_nil _))) ?_
      refine xo (e_mv' (v := AV.int .i64 i) h1) ?_
      refine xo_store h4 o0 (LR.whole _ _) (c24_len _) rfl rfl (c24_len _) (c24_one _) fun s33 o34 k35 => ?_
      refine xo (e_mv' (v := AV.int .i64 i) rfl) ?_
      refine xo (e_mv' (v := AV.bool false) rfl) ?_
      refine ato_nil ?_
      refine atn_seq ?_
      refine at_ret ?_
      cases hF
      exact atr (rl_cellN h4 o34 (LR.whole _ _) (c24_len _) (rl_tmp rfl (rl_tmp rfl rl_nil))) (isd (ds_tup (dsl_cons (ds_eq rfl (ds_agg (c24_ds _))) (dsl_cons (ds_eq rfl ds_i) (dsl_cons (ds_eq rfl ds_b) dsl_nil)))))
noncomputable def F46 (s : Str) (i : Int) : Option (Arr 4 Int × Int × Bool) :=
  (G46 (.p1 s i (IntKind.wrap .i64 (i + 2)) (Arr.rep 4 0)))
theorem d46 (s : Str) (i : Int) (r : Arr 4 Int × Int × Bool) (hF : F46 s i = some r) : DFun Try.prog noG 46 [AV.str s, AV.int .i64 i] (AV.tup [AV.agg (c24 r.1), AV.int .i64 r.2.1, AV.bool r.2.2]) := by
  unfold F46 at hF
  refine dfun_at k46 (Nat.le_of_ble_eq_true rfl) ?_
  show At (X46 r) _ _ _ _
  refine at_seq (a := C46_2) (b := C46_3) ?_
  refine at_ops (l := O46_2) ?_
  refine xo_alloc (cs := c24 (Arr.rep 4 0)) rfl fun s2 i3 o4 k5 q6 => ?_
  refine xo (e_mv' (v := AV.int .i64 0) rfl) ?_
  refine xo (e_mv' (v := AV.bool false) rfl) ?_
  refine ato_nil ?_
  refine atn_seq ?_
  refine at_seq (a := C46_4) (b := C46_26) ?_
  refine at_seq (a := C46_5) (b := C46_6) ?_
  refine at_ops (l := O46_5) ?_
  refine xo (e_mv' (v := AV.int .i64 i) rfl) ?_
  refine xo (e_bin (v := .int .i64 (IntKind.wrap .i64 (i + 2))) rfl rfl rfl) ?_
  refine xo (e_mv' (v := AV.int .i64 (IntKind.wrap .i64 (i + 2))) rfl) ?_
  refine ato_nil ?_
  refine atn_seq ?_
  refine at_block (x := C46_7) ?_
  refine at_loop (b := C46_8) ?_
  exact w46 (.p1 s i (IntKind.wrap .i64 (i + 2)) (Arr.rep 4 0)) _ hF _ _ _ rfl rfl rfl rfl o4
/-! ### 40: paddock/paddockref07.item -/
def O40_2 : List AOp := [⟨(.some 4), .none, (.plain (.alloc [(.int .u64 0), (.int .u64 0), (.int .u64 0), (.int .u64 0)]))⟩, ⟨(.some 5), .none, (.plain (.mv (.c (.int .i64 0))))⟩, ⟨(.some 6), .none, (.plain (.mv (.c (.int .i64 0))))⟩, ⟨(.some 7), .none, (.plain (.mv (.c (.bool false))))⟩]
def C40_2 : ACode := .ops O40_2
def O40_5 : List AOp := [⟨(.some 19), .none, (.plain (.mv (.t 0)))⟩, ⟨(.some 20), .none, (.plain (.mv (.t 1)))⟩, ⟨(.some 21), .none, (.call 45 [(.t 19), (.t 20)])⟩, ⟨(.some 22), .none, (.plain (.binI .eql (.t 21) (.c (.int .u8 58))))⟩]
def C40_5 : ACode := .ops O40_5
def O40_8_1 : List AOp := ⟨.none, .none, (.plain (.store 4 (.t 8) (.t 27)))⟩ :: ⟨(.some 9), .none, (.plain (.mv (.t 28)))⟩ :: ⟨(.some 10), .none, (.plain (.mv (.t 29)))⟩ :: []
def O40_8 : List AOp := ⟨(.some 24), .none, (.plain (.mv (.t 0)))⟩ :: ⟨(.some 25), .none, (.plain (.mv (.t 1)))⟩ :: ⟨(.some 26), .none, (.call 46 [(.t 24), (.t 25)])⟩ :: ⟨(.some 23), .none, (.plain (.mv (.t 26)))⟩ :: ⟨(.some 27), .none, (.plain (.extract (.t 23) 0))⟩ :: ⟨(.some 28), .none, (.plain (.extract (.t 23) 1))⟩ :: ⟨(.some 29), .none, (.plain (.extract (.t 23) 2))⟩ :: ⟨(.some 8), .none, (.plain (.alloc [(.int .u64 0), (.int .u64 0), (.int .u64 0), (.int .u64 0)]))⟩ :: O40_8_1
def C40_8 : ACode := .ops O40_8
def O40_10 : List AOp := [⟨(.some 30), .none, (.plain (.loadN 4 (.t 8)))⟩, ⟨(.some 31), .none, (.plain (.mv (.t 9)))⟩, ⟨(.some 32), .none, (.plain (.mv (.t 1)))⟩, ⟨(.some 33), .none, (.plain (.mv (.t 10)))⟩, ⟨.none, .none, (.plain (.store 4 (.t 4) (.t 30)))⟩, ⟨(.some 5), .none, (.plain (.mv (.t 31)))⟩, ⟨(.some 6), .none, (.plain (.mv (.t 32)))⟩, ⟨(.some 7), .none, (.plain (.mv (.t 33)))⟩]
def C40_10 : ACode := .ops O40_10
def C40_11 : ACode := .ret
def C40_9 : ACode := .seq C40_10 C40_11
def C40_7 : ACode := .seq C40_8 C40_9
def C40_12 : ACode := .skip
def C40_6 : ACode := .cond (.t 22) C40_7 C40_12
def C40_4 : ACode := .seq C40_5 C40_6
def O40_15 : List AOp := [⟨(.some 34), .none, (.plain (.mv (.t 0)))⟩, ⟨(.some 35), .none, (.plain (.mv (.t 1)))⟩, ⟨(.some 36), .none, (.call 45 [(.t 34), (.t 35)])⟩, ⟨(.some 37), .none, (.plain (.binI .eql (.t 36) (.c (.int .u8 61))))⟩]
def C40_15 : ACode := .ops O40_15
def O40_18_1 : List AOp := ⟨(.some 12), .none, (.plain (.mv (.t 43)))⟩ :: ⟨(.some 13), .none, (.plain (.mv (.t 44)))⟩ :: []
def O40_18 : List AOp := ⟨(.some 39), .none, (.plain (.mv (.t 0)))⟩ :: ⟨(.some 40), .none, (.plain (.mv (.t 1)))⟩ :: ⟨(.some 41), .none, (.call 47 [(.t 39), (.t 40)])⟩ :: ⟨(.some 38), .none, (.plain (.mv (.t 41)))⟩ :: ⟨(.some 42), .none, (.plain (.extract (.t 38) 0))⟩ :: ⟨(.some 43), .none, (.plain (.extract (.t 38) 1))⟩ :: ⟨(.some 44), .none, (.plain (.extract (.t 38) 2))⟩ :: ⟨(.some 11), .none, (.plain (.mv (.t 42)))⟩ :: O40_18_1
def C40_18 : ACode := .ops O40_18
def O40_20_1 : List AOp := ⟨(.some 6), .none, (.plain (.mv (.t 49)))⟩ :: ⟨(.some 7), .none, (.plain (.mv (.t 50)))⟩ :: []
def O40_20 : List AOp := ⟨(.some 45), .none, (.plain (.mv (.t 11)))⟩ :: ⟨(.some 46), .none, (.plain (.bslice 1 1 false [(.int .u8 0)] [(0, (1, (.t 45)))] false))⟩ :: ⟨(.some 47), .none, (.call 13 [(.t 46)])⟩ :: ⟨(.some 48), .none, (.plain (.mv (.t 12)))⟩ :: ⟨(.some 49), .none, (.plain (.mv (.t 1)))⟩ :: ⟨(.some 50), .none, (.plain (.mv (.t 13)))⟩ :: ⟨.none, .none, (.plain (.store 4 (.t 4) (.t 47)))⟩ :: ⟨(.some 5), .none, (.plain (.mv (.t 48)))⟩ :: O40_20_1
def C40_20 : ACode := .ops O40_20
def C40_21 : ACode := .ret
def C40_19 : ACode := .seq C40_20 C40_21
def C40_17 : ACode := .seq C40_18 C40_19
def C40_22 : ACode := .skip
def C40_16 : ACode := .cond (.t 37) C40_17 C40_22
def C40_14 : ACode := .seq C40_15 C40_16
def O40_24_1 : List AOp := ⟨(.some 15), .none, (.plain (.mv (.t 56)))⟩ :: ⟨(.some 16), .none, (.plain (.mv (.t 57)))⟩ :: []
def O40_24 : List AOp := ⟨(.some 52), .none, (.plain (.mv (.t 0)))⟩ :: ⟨(.some 53), .none, (.plain (.mv (.t 1)))⟩ :: ⟨(.some 54), .none, (.call 48 [(.t 52), (.t 53)])⟩ :: ⟨(.some 51), .none, (.plain (.mv (.t 54)))⟩ :: ⟨(.some 55), .none, (.plain (.extract (.t 51) 0))⟩ :: ⟨(.some 56), .none, (.plain (.extract (.t 51) 1))⟩ :: ⟨(.some 57), .none, (.plain (.extract (.t 51) 2))⟩ :: ⟨(.some 14), .none, (.plain (.mv (.t 55)))⟩ :: O40_24_1
def C40_24 : ACode := .ops O40_24
def O40_27 : List AOp := [⟨(.some 58), .none, (.plain (.mv (.t 16)))⟩, ⟨(.some 59), .none, (.plain (.un .not (.t 58)))⟩]
def C40_27 : ACode := .ops O40_27
def O40_30 : List AOp := [⟨(.some 60), .none, (.plain (.build [(.int .u64 0), (.int .u64 0), (.int .u64 0), (.int .u64 0)] []))⟩, ⟨(.some 61), .none, (.plain (.mv (.t 1)))⟩, ⟨.none, .none, (.plain (.store 4 (.t 4) (.t 60)))⟩, ⟨(.some 5), .none, (.plain (.mv (.c (.int .i64 0))))⟩, ⟨(.some 6), .none, (.plain (.mv (.t 61)))⟩, ⟨(.some 7), .none, (.plain (.mv (.c (.bool false))))⟩]
def C40_30 : ACode := .ops O40_30
def C40_31 : ACode := .ret
def C40_29 : ACode := .seq C40_30 C40_31
def C40_32 : ACode := .skip
def C40_28 : ACode := .cond (.t 59) C40_29 C40_32
def C40_26 : ACode := .seq C40_27 C40_28
def O40_35_2 : List AOp := ⟨(.some 78), (.some (73, false)), (.plain (.binI .eql (.t 77) (.c (.int .u8 93))))⟩ :: ⟨(.some 79), .none, (.plain (.pick (.t 73) (.c (.bool true)) (.t 78)))⟩ :: []
def O40_35_1 : List AOp := ⟨(.some 70), (.some (67, false)), (.plain (.ixS (.t 68) (.t 69)))⟩ :: ⟨(.some 71), (.some (67, false)), (.plain (.binI .neq (.t 70) (.c (.int .u8 45))))⟩ :: ⟨(.some 72), .none, (.plain (.pick (.t 67) (.c (.bool true)) (.t 71)))⟩ :: ⟨(.some 73), .none, (.plain (.mv (.t 72)))⟩ :: ⟨(.some 74), (.some (73, false)), (.plain (.mv (.t 0)))⟩ :: ⟨(.some 75), (.some (73, false)), (.plain (.mv (.t 15)))⟩ :: ⟨(.some 76), (.some (73, false)), (.plain (.binI .add (.t 75) (.c (.int .i64 1))))⟩ :: ⟨(.some 77), (.some (73, false)), (.plain (.ixS (.t 74) (.t 76)))⟩ :: O40_35_2
def O40_35 : List AOp := ⟨(.some 62), .none, (.plain (.mv (.t 15)))⟩ :: ⟨(.some 63), .none, (.plain (.binI .add (.t 62) (.c (.int .i64 1))))⟩ :: ⟨(.some 64), .none, (.plain (.mv (.t 0)))⟩ :: ⟨(.some 65), .none, (.plain (.lenS (.t 64)))⟩ :: ⟨(.some 66), .none, (.plain (.binI .geq (.t 63) (.t 65)))⟩ :: ⟨(.some 67), .none, (.plain (.mv (.t 66)))⟩ :: ⟨(.some 68), (.some (67, false)), (.plain (.mv (.t 0)))⟩ :: ⟨(.some 69), (.some (67, false)), (.plain (.mv (.t 15)))⟩ :: O40_35_1
def C40_35 : ACode := .ops O40_35
def O40_38 : List AOp := [⟨(.some 80), .none, (.plain (.mv (.t 14)))⟩, ⟨(.some 81), .none, (.plain (.bslice 1 1 false [(.int .u8 0)] [(0, (1, (.t 80)))] false))⟩, ⟨(.some 82), .none, (.call 13 [(.t 81)])⟩, ⟨(.some 83), .none, (.plain (.mv (.t 15)))⟩, ⟨.none, .none, (.plain (.store 4 (.t 4) (.t 82)))⟩, ⟨(.some 5), .none, (.plain (.mv (.t 83)))⟩, ⟨(.some 6), .none, (.plain (.mv (.c (.int .i64 0))))⟩, ⟨(.some 7), .none, (.plain (.mv (.c (.bool true))))⟩]
def C40_38 : ACode := .ops O40_38
def C40_39 : ACode := .ret
def C40_37 : ACode := .seq C40_38 C40_39
def C40_40 : ACode := .skip
def C40_36 : ACode := .cond (.t 79) C40_37 C40_40
def C40_34 : ACode := .seq C40_35 C40_36
def O40_42_1 : List AOp := ⟨(.some 17), .none, (.plain (.mv (.t 89)))⟩ :: ⟨(.some 18), .none, (.plain (.mv (.t 90)))⟩ :: ⟨(.some 16), .none, (.plain (.mv (.t 91)))⟩ :: []
def O40_42 : List AOp := ⟨(.some 85), .none, (.plain (.mv (.t 0)))⟩ :: ⟨(.some 86), .none, (.plain (.mv (.t 15)))⟩ :: ⟨(.some 87), .none, (.plain (.binI .add (.t 86) (.c (.int .i64 1))))⟩ :: ⟨(.some 88), .none, (.call 48 [(.t 85), (.t 87)])⟩ :: ⟨(.some 84), .none, (.plain (.mv (.t 88)))⟩ :: ⟨(.some 89), .none, (.plain (.extract (.t 84) 0))⟩ :: ⟨(.some 90), .none, (.plain (.extract (.t 84) 1))⟩ :: ⟨(.some 91), .none, (.plain (.extract (.t 84) 2))⟩ :: O40_42_1
def C40_42 : ACode := .ops O40_42
def O40_45 : List AOp := [⟨(.some 92), .none, (.plain (.mv (.t 16)))⟩, ⟨(.some 93), .none, (.plain (.un .not (.t 92)))⟩, ⟨(.some 94), .none, (.plain (.mv (.t 93)))⟩, ⟨(.some 95), (.some (94, false)), (.plain (.mv (.t 17)))⟩, ⟨(.some 96), (.some (94, false)), (.plain (.mv (.t 14)))⟩, ⟨(.some 97), (.some (94, false)), (.plain (.binI .lss (.t 95) (.t 96)))⟩, ⟨(.some 98), .none, (.plain (.pick (.t 94) (.c (.bool true)) (.t 97)))⟩]
def C40_45 : ACode := .ops O40_45
def O40_48 : List AOp := [⟨(.some 99), .none, (.plain (.build [(.int .u64 0), (.int .u64 0), (.int .u64 0), (.int .u64 0)] []))⟩, ⟨(.some 100), .none, (.plain (.mv (.t 15)))⟩, ⟨(.some 101), .none, (.plain (.binI .add (.t 100) (.c (.int .i64 1))))⟩, ⟨.none, .none, (.plain (.store 4 (.t 4) (.t 99)))⟩, ⟨(.some 5), .none, (.plain (.mv (.c (.int .i64 0))))⟩, ⟨(.some 6), .none, (.plain (.mv (.t 101)))⟩, ⟨(.some 7), .none, (.plain (.mv (.c (.bool false))))⟩]
def C40_48 : ACode := .ops O40_48
def C40_49 : ACode := .ret
def C40_47 : ACode := .seq C40_48 C40_49
def C40_50 : ACode := .skip
def C40_46 : ACode := .cond (.t 98) C40_47 C40_50
def C40_44 : ACode := .seq C40_45 C40_46
def O40_52 : List AOp := [⟨(.some 102), .none, (.plain (.mv (.t 14)))⟩, ⟨(.some 103), .none, (.plain (.mv (.t 17)))⟩, ⟨(.some 104), .none, (.call 21 [(.t 102), (.t 103)])⟩, ⟨(.some 105), .none, (.plain (.mv (.t 18)))⟩, ⟨.none, .none, (.plain (.store 4 (.t 4) (.t 104)))⟩, ⟨(.some 5), .none, (.plain (.mv (.t 105)))⟩, ⟨(.some 6), .none, (.plain (.mv (.c (.int .i64 0))))⟩, ⟨(.some 7), .none, (.plain (.mv (.c (.bool true))))⟩]
def C40_52 : ACode := .ops O40_52
def C40_53 : ACode := .ret
def C40_51 : ACode := .seq C40_52 C40_53
def C40_43 : ACode := .seq C40_44 C40_51
def C40_41 : ACode := .seq C40_42 C40_43
def C40_33 : ACode := .seq C40_34 C40_41
def C40_25 : ACode := .seq C40_26 C40_33
def C40_23 : ACode := .seq C40_24 C40_25
def C40_13 : ACode := .seq C40_14 C40_23
def C40_3 : ACode := .seq C40_4 C40_13
def C40_1 : ACode := .seq C40_2 C40_3
def R40 : List RA := [(.cellN 4 4), (.tmp 5), (.tmp 6), (.tmp 7)]
theorem k40 : compF Try.prog (muL []) 40 = some ⟨106, C40_1, R40⟩ := by kernel_rfl
noncomputable def X40 (r : Arr 4 Int × Int × Int × Bool) : Cx := ⟨Try.prog, noG, 106, muL [], R40, isD (fun x => x = AV.tup [AV.agg (c24 r.1), AV.int .i64 r.2.1, AV.int .i64 r.2.2.1, AV.bool r.2.2.2])⟩
inductive St40 where
  | p1 (from_ : Int) (next : Int) (t4 : Arr 4 Int)
  | p2 (next : Int) (t4 : Arr 4 Int)
noncomputable def G40 : St40 → Option (Arr 4 Int × Int × Int × Bool)
  | .p1 from_ next t4 =>
    (F13 (some ([from_] : List Int)) >>= fun r71 =>
      (some (r71, next, 0, true)))
  | .p2 next t4 =>
    (some ((Arr.rep 4 0), 0, IntKind.wrap .i64 (next + 1), false))
def M40 (x : St40) (r : Arr 4 Int × Int × Int × Bool) : Prop := match x with
  | .p1 from_ next t4 => ∀ (tm : Fr) (st : Store) (i0 : Nat), tm 4 = .ptr i0 0 → tm 14 = AV.int .u8 from_ → tm 15 = AV.int .i64 next → st[i0]? = some (.cells (c24 t4)) → At (X40 r) C40_37 [.seq C40_41] tm st
  | .p2 next t4 => ∀ (tm : Fr) (st : Store) (i0 : Nat), tm 4 = .ptr i0 0 → tm 15 = AV.int .i64 next → st[i0]? = some (.cells (c24 t4)) → At (X40 r) C40_47 [.seq C40_51] tm st
theorem w40 : ∀ (x : St40) (r : Arr 4 Int × Int × Int × Bool), G40 x = some r → M40 x r := by
  intro x r hF
  cases x with
  | p1 from_ next t4 =>
    dsimp only [G40] at hF
    intro tm st i0 h4 h14 h15 o0
    refine at_seq (a := C40_38) (b := C40_39) ?_
    refine at_ops (l := O40_38) ?_
    refine xo (e_mv' (v := AV.int .u8 from_) h14) ?_
    refine xo_bslice (f := AV.int .u8) (m := ([from_] : List Int)) (pk_cons (cs := (cI .u8) from_) rfl rfl ((cI_len .u8) _) (by decide) pk_nil) rfl rfl rfl fun s65 i66 o67 k68 q69 => ?_
    have o70 := keep0 k68 o0
    obtain ⟨r71, g72, hF⟩ := bind_some hF
    refine xo_dfun' (d13 (some ([from_] : List Int)) _ g72) (dsl_cons (ds_rd (fun _ => ds_i) (rd_T rfl)) dsl_nil) ?_
    refine xo (e_mv' (v := AV.int .i64 next) h15) ?_
    refine xo_store h4 o70 (LR.whole _ _) (c24_len _) rfl rfl (c24_len _) (c24_one _) fun s73 o74 k75 => ?_
    refine xo (e_mv' (v := AV.int .i64 next) rfl) ?_
    refine xo (e_mv' (v := AV.int .i64 0) rfl) ?_
    refine xo (e_mv' (v := AV.bool true) rfl) ?_
    refine ato_nil ?_
    refine atn_seq ?_
    refine at_ret ?_
    cases hF
    exact atr (rl_cellN h4 o74 (LR.whole _ _) (c24_len _) (rl_tmp rfl (rl_tmp rfl (rl_tmp rfl rl_nil)))) (isd (ds_tup (dsl_cons (ds_eq rfl (ds_agg (c24_ds _))) (dsl_cons (ds_eq rfl ds_i) (dsl_cons (ds_eq rfl ds_i) (dsl_cons (ds_eq rfl ds_b) dsl_nil))))))
  | p2 next t4 =>
    dsimp only [G40] at hF
    intro tm st i0 h4 h15 o0
    refine at_seq (a := C40_48) (b := C40_49) ?_
    refine at_ops (l := O40_48) ?_
    refine xo (e_build (z := [(.int .u64 0), (.int .u64 0), (.int .u64 0), (.int .u64 0)]) (cs := c24 (Arr.rep 4 0)) pk_nil (show fillA (c24 (Arr.rep 4 0)) _ = _ from (fl_nil _))) ?_
    refine xo (e_mv' (v := AV.int .i64 next) h15) ?_
    refine xo (e_bin (v := .int .i64 (IntKind.wrap .i64 (next + 1))) rfl rfl rfl) ?_
    refine xo_store h4 o0 (LR.whole _ _) (c24_len _) rfl rfl (c24_len _) (c24_one _) fun s76 o77 k78 => ?_
    refine xo (e_mv' (v := AV.int .i64 0) rfl) ?_
    refine xo (e_mv' (v := AV.int .i64 (IntKind.wrap .i64 (next + 1))) rfl) ?_
    refine xo (e_mv' (v := AV.bool false) rfl) ?_
    refine ato_nil ?_
    refine atn_seq ?_
    refine at_ret ?_
    cases hF
    exact atr (rl_cellN h4 o77 (LR.whole _ _) (c24_len _) (rl_tmp rfl (rl_tmp rfl (rl_tmp rfl rl_nil)))) (isd (ds_tup (dsl_cons (ds_eq rfl (ds_agg (c24_ds _))) (dsl_cons (ds_eq rfl ds_i) (dsl_cons (ds_eq rfl ds_i) (dsl_cons (ds_eq rfl ds_b) dsl_nil))))))
noncomputable def F40 (s : Str) (i : Int) : Option (Arr 4 Int × Int × Int × Bool) :=
  (F45 s i >>= fun r7 =>
    (if (r7 == 58) = true then
      (F46 s i >>= fun r10 =>
        (some (r10.1, r10.2.1, i, r10.2.2)))
    else
      (F45 s i >>= fun r27 =>
        (if (r27 == 61) = true then
          (F47 s i >>= fun r30 =>
            (F13 (some ([r30.1] : List Int)) >>= fun r38 =>
              (some (r38, r30.2.1, i, r30.2.2))))
        else
          (F48 s i >>= fun r43 =>
            (if (!r43.2.2) = true then
              (some ((Arr.rep 4 0), 0, i, false))
            else
              (if (decide ((IntKind.wrap .i64 (r43.2.1 + 1)) ≥ ((s).length : Int))) = true then
                (G40 (.p1 r43.1 r43.2.1 (Arr.rep 4 0)))
              else
                (ix s r43.2.1 >>= fun b50 =>
                  (if ((b50.toNat : Int) != 45) = true then
                    (G40 (.p1 r43.1 r43.2.1 (Arr.rep 4 0)))
                  else
                    (ix s (IntKind.wrap .i64 (r43.2.1 + 1)) >>= fun b53 =>
                      (if ((b53.toNat : Int) == 93) = true then
                        (G40 (.p1 r43.1 r43.2.1 (Arr.rep 4 0)))
                      else
                        (F48 s (IntKind.wrap .i64 (r43.2.1 + 1)) >>= fun r56 =>
                          (if (!r56.2.2) = true then
                            (G40 (.p2 r43.2.1 (Arr.rep 4 0)))
                          else
                            (if (decide (r56.1 < r43.1)) = true then
                              (G40 (.p2 r43.2.1 (Arr.rep 4 0)))
                            else
                              (F21 r43.1 r56.1 >>= fun r60 =>
                                (some (r60, r56.2.1, 0, true)))))))))))))))))
theorem d40 (s : Str) (i : Int) (r : Arr 4 Int × Int × Int × Bool) (hF : F40 s i = some r) : DFun Try.prog noG 40 [AV.str s, AV.int .i64 i] (AV.tup [AV.agg (c24 r.1), AV.int .i64 r.2.1, AV.int .i64 r.2.2.1, AV.bool r.2.2.2]) := by
  unfold F40 at hF
  refine dfun_at k40 (Nat.le_of_ble_eq_true rfl) ?_
  show At (X40 r) _ _ _ _
  refine at_seq (a := C40_2) (b := C40_3) ?_
  refine at_ops (l := O40_2) ?_
  refine xo_alloc (cs := c24 (Arr.rep 4 0)) rfl fun s2 i3 o4 k5 q6 => ?_
  refine xo (e_mv' (v := AV.int .i64 0) rfl) ?_
  refine xo (e_mv' (v := AV.int .i64 0) rfl) ?_
  refine xo (e_mv' (v := AV.bool false) rfl) ?_
  refine ato_nil ?_
  refine atn_seq ?_
  refine at_seq (a := C40_4) (b := C40_13) ?_
  refine at_seq (a := C40_5) (b := C40_6) ?_
  refine at_ops (l := O40_5) ?_
  refine xo (e_mv' (v := AV.str s) rfl) ?_
  refine xo (e_mv' (v := AV.int .i64 i) rfl) ?_
  obtain ⟨r7, g8, hF⟩ := bind_some hF
  refine xo_dfun' (d45 s i _ g8) (dsl_cons (ds_eq rfl ds_s) (dsl_cons (ds_eq rfl ds_i) dsl_nil)) ?_
  refine xo (e_bin (v := .bool ((r7 == 58))) rfl rfl rfl) ?_
  refine ato_nil ?_
  refine atn_seq ?_
  refine at_cond (x := C40_7) (y := C40_12) rfl (fun c9 => ?_) (fun c9 => ?_)
  · have hF := ite_t c9 hF
    refine at_seq (a := C40_8) (b := C40_9) ?_
    refine at_ops (l := O40_8) ?_
    refine xo (e_mv' (v := AV.str s) rfl) ?_
    refine xo (e_mv' (v := AV.int .i64 i) rfl) ?_
    obtain ⟨r10, g11, hF⟩ := bind_some hF
    refine xo_dfun' (d46 s i _ g11) (dsl_cons (ds_eq rfl ds_s) (dsl_cons (ds_eq rfl ds_i) dsl_nil)) ?_
    refine xo (e_mv' (v := AV.tup [AV.agg (c24 r10.1), AV.int .i64 r10.2.1, AV.bool r10.2.2]) rfl) ?_
    refine xo (e_extract (v := AV.agg (c24 r10.1)) rfl rfl) ?_
    refine xo (e_extract (v := AV.int .i64 r10.2.1) rfl rfl) ?_
    refine xo (e_extract (v := AV.bool r10.2.2) rfl rfl) ?_
    refine xo_alloc (cs := c24 (Arr.rep 4 0)) rfl fun s13 i14 o15 k16 q17 => ?_
    have n18 : i3 ≠ i14 := fun e => ne_new o4 (e.trans q17)
    have o19 := keep0 k16 o4
    refine xo_store rfl o15 (LR.whole _ _) (c24_len _) rfl rfl (c24_len _) (c24_one _) fun s20 o21 k22 => ?_
    have o23 := k22 _ _ o19 n18
    refine xo (e_mv' (v := AV.int .i64 r10.2.1) rfl) ?_
    refine xo (e_mv' (v := AV.bool r10.2.2) rfl) ?_
    refine ato_nil ?_
    refine atn_seq ?_
    refine at_seq (a := C40_10) (b := C40_11) ?_
    refine at_ops (l := O40_10) ?_
    refine xo (e_loadN rfl o21 (LR.whole _ _) (c24_len _)) ?_
    refine xo (e_mv' (v := AV.int .i64 r10.2.1) rfl) ?_
    refine xo (e_mv' (v := AV.int .i64 i) rfl) ?_
    refine xo (e_mv' (v := AV.bool r10.2.2) rfl) ?_
    refine xo_store rfl o23 (LR.whole _ _) (c24_len _) rfl rfl (c24_len _) (c24_one _) fun s24 o25 k26 => ?_
    refine xo (e_mv' (v := AV.int .i64 r10.2.1) rfl) ?_
    refine xo (e_mv' (v := AV.int .i64 i) rfl) ?_
    refine xo (e_mv' (v := AV.bool r10.2.2) rfl) ?_
    refine ato_nil ?_
    refine atn_seq ?_
    refine at_ret ?_
    cases hF
    exact atr (rl_cellN rfl o25 (LR.whole _ _) (c24_len _) (rl_tmp rfl (rl_tmp rfl (rl_tmp rfl rl_nil)))) (isd (ds_tup (dsl_cons (ds_eq rfl (ds_agg (c24_ds _))) (dsl_cons (ds_eq rfl ds_i) (dsl_cons (ds_eq rfl ds_i) (dsl_cons (ds_eq rfl ds_b) dsl_nil))))))
  · have hF := ite_f c9 hF
    refine at_skip ?_
    refine atn_seq ?_
    refine at_seq (a := C40_14) (b := C40_23) ?_
    refine at_seq (a := C40_15) (b := C40_16) ?_
    refine at_ops (l := O40_15) ?_
    refine xo (e_mv' (v := AV.str s) rfl) ?_
    refine xo (e_mv' (v := AV.int .i64 i) rfl) ?_
    obtain ⟨r27, g28, hF⟩ := bind_some hF
    refine xo_dfun' (d45 s i _ g28) (dsl_cons (ds_eq rfl ds_s) (dsl_cons (ds_eq rfl ds_i) dsl_nil)) ?_
    refine xo (e_bin (v := .bool ((r27 == 61))) rfl rfl rfl) ?_
    refine ato_nil ?_
    refine atn_seq ?_
    refine at_cond (x := C40_17) (y := C40_22) rfl (fun c29 => ?_) (fun c29 => ?_)
    · have hF := ite_t c29 hF
      refine at_seq (a := C40_18) (b := C40_19) ?_
      refine at_ops (l := O40_18) ?_
      refine xo (e_mv' (v := AV.str s) rfl) ?_
      refine xo (e_mv' (v := AV.int .i64 i) rfl) ?_
      obtain ⟨r30, g31, hF⟩ := bind_some hF
      refine xo_dfun' (d47 s i _ g31) (dsl_cons (ds_eq rfl ds_s) (dsl_cons (ds_eq rfl ds_i) dsl_nil)) ?_
      refine xo (e_mv' (v := AV.tup [AV.int .u8 r30.1, AV.int .i64 r30.2.1, AV.bool r30.2.2]) rfl) ?_
      refine xo (e_extract (v := AV.int .u8 r30.1) rfl rfl) ?_
      refine xo (e_extract (v := AV.int .i64 r30.2.1) rfl rfl) ?_
      refine xo (e_extract (v := AV.bool r30.2.2) rfl rfl) ?_
      refine xo (e_mv' (v := AV.int .u8 r30.1) rfl) ?_
      refine xo (e_mv' (v := AV.int .i64 r30.2.1) rfl) ?_
      refine xo (e_mv' (v := AV.bool r30.2.2) rfl) ?_
      refine ato_nil ?_
      refine atn_seq ?_
      refine at_seq (a := C40_20) (b := C40_21) ?_
      refine at_ops (l := O40_20) ?_
      refine xo (e_mv' (v := AV.int .u8 r30.1) rfl) ?_
      refine xo_bslice (f := AV.int .u8) (m := ([r30.1] : List Int)) (pk_cons (cs := (cI .u8) r30.1) rfl rfl ((cI_len .u8) _) (by decide) pk_nil) rfl rfl rfl fun s32 i33 o34 k35 q36 => ?_
      have o37 := keep0 k35 o4
      obtain ⟨r38, g39, hF⟩ := bind_some hF
      refine xo_dfun' (d13 (some ([r30.1] : List Int)) _ g39) (dsl_cons (ds_rd (fun _ => ds_i) (rd_T rfl)) dsl_nil) ?_
      refine xo (e_mv' (v := AV.int .i64 r30.2.1) rfl) ?_
      refine xo (e_mv' (v := AV.int .i64 i) rfl) ?_
      refine xo (e_mv' (v := AV.bool r30.2.2) rfl) ?_
      refine xo_store rfl o37 (LR.whole _ _) (c24_len _) rfl rfl (c24_len _) (c24_one _) fun s40 o41 k42 => ?_
      refine xo (e_mv' (v := AV.int .i64 r30.2.1) rfl) ?_
      refine xo (e_mv' (v := AV.int .i64 i) rfl) ?_
      refine xo (e_mv' (v := AV.bool r30.2.2) rfl) ?_
      refine ato_nil ?_
      refine atn_seq ?_
      refine at_ret ?_
      cases hF
      exact atr (rl_cellN rfl o41 (LR.whole _ _) (c24_len _) (rl_tmp rfl (rl_tmp rfl (rl_tmp rfl rl_nil)))) (isd (ds_tup (dsl_cons (ds_eq rfl (ds_agg (c24_ds _))) (dsl_cons (ds_eq rfl ds_i) (dsl_cons (ds_eq rfl ds_i) (dsl_cons (ds_eq rfl ds_b) dsl_nil))))))
    · have hF := ite_f c29 hF
      refine at_skip ?_
      refine atn_seq ?_
      refine at_seq (a := C40_24) (b := C40_25) ?_
      refine at_ops (l := O40_24) ?_
      refine xo (e_mv' (v := AV.str s) rfl) ?_
      refine xo (e_mv' (v := AV.int .i64 i) rfl) ?_
      obtain ⟨r43, g44, hF⟩ := bind_some hF
      refine xo_dfun' (d48 s i _ g44) (dsl_cons (ds_eq rfl ds_s) (dsl_cons (ds_eq rfl ds_i) dsl_nil)) ?_
      refine xo (e_mv' (v := AV.tup [AV.int .u8 r43.1, AV.int .i64 r43.2.1, AV.bool r43.2.2]) rfl) ?_
      refine xo (e_extract (v := AV.int .u8 r43.1) rfl rfl) ?_
      refine xo (e_extract (v := AV.int .i64 r43.2.1) rfl rfl) ?_
      refine xo (e_extract (v := AV.bool r43.2.2) rfl rfl) ?_
      refine xo (e_mv' (v := AV.int .u8 r43.1) rfl) ?_
      refine xo (e_mv' (v := AV.int .i64 r43.2.1) rfl) ?_
      refine xo (e_mv' (v := AV.bool r43.2.2) rfl) ?_
      refine ato_nil ?_
      refine atn_seq ?_
      refine at_seq (a := C40_26) (b := C40_33) ?_
      refine at_seq (a := C40_27) (b := C40_28) ?_
      refine at_ops (l := O40_27) ?_
      refine xo (e_mv' (v := AV.bool r43.2.2) rfl) ?_
      refine xo (e_not rfl) ?_
      refine ato_nil ?_
      refine atn_seq ?_
      refine at_cond (x := C40_29) (y := C40_32) rfl (fun c45 => ?_) (fun c45 => ?_)
      · have hF := ite_t c45 hF
        refine at_seq (a := C40_30) (b := C40_31) ?_
        refine at_ops (l := O40_30) ?_
        refine xo (e_build (z := [(.int .u64 0), (.int .u64 0), (.int .u64 0), (.int .u64 0)]) (cs := c24 (Arr.rep 4 0)) pk_nil (show fillA (c24 (Arr.rep 4 0)) _ = _ from (fl_nil _))) ?_
        refine xo (e_mv' (v := AV.int .i64 i) rfl) ?_
        refine xo_store rfl o4 (LR.whole _ _) (c24_len _) rfl rfl (c24_len _) (c24_one _) fun s46 o47 k48 => ?_
        refine xo (e_mv' (v := AV.int .i64 0) rfl) ?_
        refine xo (e_mv' (v := AV.int .i64 i) rfl) ?_
        refine xo (e_mv' (v := AV.bool false) rfl) ?_
        refine ato_nil ?_
        refine atn_seq ?_
        refine at_ret ?_
        cases hF
        exact atr (rl_cellN rfl o47 (LR.whole _ _) (c24_len _) (rl_tmp rfl (rl_tmp rfl (rl_tmp rfl rl_nil)))) (isd (ds_tup (dsl_cons (ds_eq rfl (ds_agg (c24_ds _))) (dsl_cons (ds_eq rfl ds_i) (dsl_cons (ds_eq rfl ds_i) (dsl_cons (ds_eq rfl ds_b) dsl_nil))))))
      · have hF := ite_f c45 hF
        refine at_skip ?_
        refine atn_seq ?_
        refine at_seq (a := C40_34) (b := C40_41) ?_
        refine at_seq (a := C40_35) (b := C40_36) ?_
        refine at_ops (l := O40_35) ?_
        refine xo (e_mv' (v := AV.int .i64 r43.2.1) rfl) ?_
        refine xo (e_bin (v := .int .i64 (IntKind.wrap .i64 (r43.2.1 + 1))) rfl rfl rfl) ?_
        refine xo (e_mv' (v := AV.str s) rfl) ?_
        refine xo (e_lenS rfl) ?_
        refine xo (e_bin (v := .bool (decide ((IntKind.wrap .i64 (r43.2.1 + 1)) ≥ ((s).length : Int)))) rfl rfl rfl) ?_
        refine xo (e_mv' (v := AV.bool (decide ((IntKind.wrap .i64 (r43.2.1 + 1)) ≥ ((s).length : Int)))) rfl) ?_
        refine bsplit (b := decide ((IntKind.wrap .i64 (r43.2.1 + 1)) ≥ ((s).length : Int))) (fun c49 => ?_) (fun c49 => ?_)
        · have hF := ite_t c49 hF
          refine xo_off rfl c49 ?_
          refine xo_off rfl c49 ?_
          refine xo_off rfl c49 ?_
          refine xo_off rfl c49 ?_
          refine xo (e_pick_t (v := AV.bool true) rfl c49 rfl) ?_
          refine xo (e_mv' (v := AV.bool true) rfl) ?_
          refine xo_off rfl rfl ?_
          refine xo_off rfl rfl ?_
          refine xo_off rfl rfl ?_
          refine xo_off rfl rfl ?_
          refine xo_off rfl rfl ?_
          refine xo (e_pick_t (v := AV.bool true) rfl rfl rfl) ?_
          refine ato_nil ?_
          refine atn_seq ?_
          refine at_cond_t (x := C40_37) (y := C40_40) rfl rfl ?_
          exact w40 (.p1 r43.1 r43.2.1 (Arr.rep 4 0)) _ hF _ _ _ rfl rfl rfl o4
        · have hF := ite_f c49 hF
          refine xo_on rfl c49 ?_
          refine xo (e_mv' (v := AV.str s) rfl) ?_
          refine xo_on rfl c49 ?_
          refine xo (e_mv' (v := AV.int .i64 r43.2.1) rfl) ?_
          obtain ⟨b50, g51, hF⟩ := bind_some hF
          refine xo_on rfl c49 ?_
          refine xo (e_ixS rfl rfl g51) ?_
          refine xo_on rfl c49 ?_
          refine xo (e_bin (v := .bool (((b50.toNat : Int) != 45))) rfl rfl rfl) ?_
          refine xo (e_pick_f (v := AV.bool ((b50.toNat : Int) != 45)) rfl c49 rfl) ?_
          refine xo (e_mv' (v := AV.bool ((b50.toNat : Int) != 45)) rfl) ?_
          refine bsplit (b := ((b50.toNat : Int) != 45)) (fun c52 => ?_) (fun c52 => ?_)
          · have hF := ite_t c52 hF
            refine xo_off rfl c52 ?_
            refine xo_off rfl c52 ?_
            refine xo_off rfl c52 ?_
            refine xo_off rfl c52 ?_
            refine xo_off rfl c52 ?_
            refine xo (e_pick_t (v := AV.bool true) rfl c52 rfl) ?_
            refine ato_nil ?_
            refine atn_seq ?_
            refine at_cond_t (x := C40_37) (y := C40_40) rfl rfl ?_
            exact w40 (.p1 r43.1 r43.2.1 (Arr.rep 4 0)) _ hF _ _ _ rfl rfl rfl o4
          · have hF := ite_f c52 hF
            refine xo_on rfl c52 ?_
            refine xo (e_mv' (v := AV.str s) rfl) ?_
            refine xo_on rfl c52 ?_
            refine xo (e_mv' (v := AV.int .i64 r43.2.1) rfl) ?_
            refine xo_on rfl c52 ?_
            refine xo (e_bin (v := .int .i64 (IntKind.wrap .i64 (r43.2.1 + 1))) rfl rfl rfl) ?_
            obtain ⟨b53, g54, hF⟩ := bind_some hF
            refine xo_on rfl c52 ?_
            refine xo (e_ixS rfl rfl g54) ?_
            refine xo_on rfl c52 ?_
            refine xo (e_bin (v := .bool (((b53.toNat : Int) == 93))) rfl rfl rfl) ?_
            refine xo (e_pick_f (v := AV.bool ((b53.toNat : Int) == 93)) rfl c52 rfl) ?_
            refine ato_nil ?_
            refine atn_seq ?_
            refine at_cond (x := C40_37) (y := C40_40) rfl (fun c55 => ?_) (fun c55 => ?_)
            · have hF := ite_t c55 hF
              exact w40 (.p1 r43.1 r43.2.1 (Arr.rep 4 0)) _ hF _ _ _ rfl rfl rfl o4
            · have hF := ite_f c55 hF
              refine at_skip ?_
              refine atn_seq ?_
              refine at_seq (a := C40_42) (b := C40_43) ?_
              refine at_ops (l := O40_42) ?_
              refine xo (e_mv' (v := AV.str s) rfl) ?_
              refine xo (e_mv' (v := AV.int .i64 r43.2.1) rfl) ?_
              refine xo (e_bin (v := .int .i64 (IntKind.wrap .i64 (r43.2.1 + 1))) rfl rfl rfl) ?_
              obtain ⟨r56, g57, hF⟩ := bind_some hF
              refine xo_dfun' (d48 s (IntKind.wrap .i64 (r43.2.1 + 1)) _ g57) (dsl_cons (ds_eq rfl ds_s) (dsl_cons (ds_eq rfl ds_i) dsl_nil)) ?_
              refine xo (e_mv' (v := AV.tup [AV.int .u8 r56.1, AV.int .i64 r56.2.1, AV.bool r56.2.2]) rfl) ?_
              refine xo (e_extract (v := AV.int .u8 r56.1) rfl rfl) ?_
              refine xo (e_extract (v := AV.int .i64 r56.2.1) rfl rfl) ?_
              refine xo (e_extract (v := AV.bool r56.2.2) rfl rfl) ?_
              refine xo (e_mv' (v := AV.int .u8 r56.1) rfl) ?_
              refine xo (e_mv' (v := AV.int .i64 r56.2.1) rfl) ?_
              refine xo (e_mv' (v := AV.bool r56.2.2) rfl) ?_
              refine ato_nil ?_
              refine atn_seq ?_
              refine at_seq (a := C40_44) (b := C40_51) ?_
              refine at_seq (a := C40_45) (b := C40_46) ?_
              refine at_ops (l := O40_45) ?_
              refine xo (e_mv' (v := AV.bool r56.2.2) rfl) ?_
              refine xo (e_not rfl) ?_
              refine xo (e_mv' (v := AV.bool (!r56.2.2)) rfl) ?_
              refine bsplit (b := (!r56.2.2)) (fun c58 => ?_) (fun c58 => ?_)
              · have hF := ite_t c58 hF
                refine xo_off rfl c58 ?_
                refine xo_off rfl c58 ?_
                refine xo_off rfl c58 ?_
                refine xo (e_pick_t (v := AV.bool true) rfl c58 rfl) ?_
                refine ato_nil ?_
                refine atn_seq ?_
                refine at_cond_t (x := C40_47) (y := C40_50) rfl rfl ?_
                exact w40 (.p2 r43.2.1 (Arr.rep 4 0)) _ hF _ _ _ rfl rfl o4
              · have hF := ite_f c58 hF
                refine xo_on rfl c58 ?_
                refine xo (e_mv' (v := AV.int .u8 r56.1) rfl) ?_
                refine xo_on rfl c58 ?_
                refine xo (e_mv' (v := AV.int .u8 r43.1) rfl) ?_
                refine xo_on rfl c58 ?_
                refine xo (e_bin (v := .bool (decide (r56.1 < r43.1))) rfl rfl rfl) ?_
                refine xo (e_pick_f (v := AV.bool (decide (r56.1 < r43.1))) rfl c58 rfl) ?_
                refine ato_nil ?_
                refine atn_seq ?_
                refine at_cond (x := C40_47) (y := C40_50) rfl (fun c59 => ?_) (fun c59 => ?_)
                · have hF := ite_t c59 hF
                  exact w40 (.p2 r43.2.1 (Arr.rep 4 0)) _ hF _ _ _ rfl rfl o4
                · have hF := ite_f c59 hF
                  refine at_skip ?_
                  refine atn_seq ?_
                  refine at_seq (a := C40_52) (b := C40_53) ?_
                  refine at_ops (l := O40_52) ?_
                  refine xo (e_mv' (v := AV.int .u8 r43.1) rfl) ?_
                  refine xo (e_mv' (v := AV.int .u8 r56.1) rfl) ?_
                  obtain ⟨r60, g61, hF⟩ := bind_some hF
                  refine xo_dfun' (d21 r43.1 r56.1 _ g61) (dsl_cons (ds_eq rfl ds_i) (dsl_cons (ds_eq rfl ds_i) dsl_nil)) ?_
                  refine xo (e_mv' (v := AV.int .i64 r56.2.1) rfl) ?_
                  refine xo_store rfl o4 (LR.whole _ _) (c24_len _) rfl rfl (c24_len _) (c24_one _) fun s62 o63 k64 => ?_
                  refine xo (e_mv' (v := AV.int .i64 r56.2.1) rfl) ?_
                  refine xo (e_mv' (v := AV.int .i64 0) rfl) ?_
                  refine xo (e_mv' (v := AV.bool true) rfl) ?_
                  refine ato_nil ?_
                  refine atn_seq ?_
                  refine at_ret ?_
                  cases hF
                  exact atr (rl_cellN rfl o63 (LR.whole _ _) (c24_len _) (rl_tmp rfl (rl_tmp rfl (rl_tmp rfl rl_nil)))) (isd (ds_tup (dsl_cons (ds_eq rfl (ds_agg (c24_ds _))) (dsl_cons (ds_eq rfl ds_i) (dsl_cons (ds_eq rfl ds_i) (dsl_cons (ds_eq rfl ds_b) dsl_nil))))))
end Go.Proofs.Ytfjdegohjnejkaa
