/-
  Functions of the program's as plain functions.
-/
import Derived.Test.YtfjdegohjnejkaaD4
set_option linter.unusedVariables false
set_option maxRecDepth 4000
set_option maxHeartbeats 4000000
namespace Go.Proofs.Ytfjdegohjnejkaa
open Go AW
attribute [local irreducible] At AtL AtO AtN AtX AtR AtD XS XLoop DFun XCall
/-! ### 3: paddock/paddocklaw07.SetsMade -/
def O3_2 : List AOp := [⟨(.some 6), .none, (.plain (.box 4 (.t 1)))⟩, ⟨(.some 10), .none, (.plain (.mv (.c (.bool false))))⟩]
def C3_2 : ACode := .ops O3_2
def O3_4 : List AOp := [⟨(.some 16), .none, (.plain (.mv (.t 4)))⟩, ⟨(.some 17), .none, (.call 9 [(.t 16)])⟩, ⟨(.some 15), .none, (.plain (.mv (.t 17)))⟩, ⟨(.some 18), .none, (.plain (.extract (.t 15) 0))⟩, ⟨(.some 19), .none, (.plain (.extract (.t 15) 1))⟩, ⟨(.some 11), .none, (.plain (.alloc [(.int .u64 0), (.int .u64 0), (.int .u64 0), (.int .u64 0)]))⟩, ⟨.none, .none, (.plain (.store 4 (.t 11) (.t 18)))⟩, ⟨(.some 12), .none, (.plain (.mv (.t 19)))⟩]
def C3_4 : ACode := .ops O3_4
def O3_6 : List AOp := [⟨(.some 21), .none, (.plain (.mv (.t 4)))⟩, ⟨(.some 22), .none, (.call 10 [(.t 21)])⟩, ⟨(.some 20), .none, (.plain (.mv (.t 22)))⟩, ⟨(.some 23), .none, (.plain (.extract (.t 20) 0))⟩, ⟨(.some 24), .none, (.plain (.extract (.t 20) 1))⟩, ⟨(.some 13), .none, (.plain (.alloc [(.int .u64 0), (.int .u64 0), (.int .u64 0), (.int .u64 0)]))⟩, ⟨.none, .none, (.plain (.store 4 (.t 13) (.t 23)))⟩, ⟨(.some 14), .none, (.plain (.mv (.t 24)))⟩]
def C3_6 : ACode := .ops O3_6
def Q3_8_6 : List AOp := ⟨(.some 73), (.some (71, true)), (.plain (.mv (.t 14)))⟩ :: ⟨(.some 74), (.some (71, true)), (.plain (.eqB false (.t 72) (.t 73)))⟩ :: ⟨(.some 75), .none, (.plain (.pick (.t 71) (.t 74) (.c (.bool false))))⟩ :: ⟨(.some 10), .none, (.plain (.mv (.t 75)))⟩ :: []
def Q3_8_5 : List AOp := ⟨(.some 65), .none, (.plain (.pick (.t 57) (.t 64) (.c (.bool false))))⟩ :: ⟨(.some 66), .none, (.plain (.mv (.t 65)))⟩ :: ⟨(.some 67), (.some (66, true)), (.plain (.loadN 4 (.t 11)))⟩ :: ⟨(.some 68), (.some (66, true)), (.plain (.loadN 4 (.t 13)))⟩ :: ⟨(.some 69), (.some (66, true)), (.plain (.eqA false [.i, .i, .i, .i] (.t 67) (.t 68)))⟩ :: ⟨(.some 70), .none, (.plain (.pick (.t 66) (.t 69) (.c (.bool false))))⟩ :: ⟨(.some 71), .none, (.plain (.mv (.t 70)))⟩ :: ⟨(.some 72), (.some (71, true)), (.plain (.mv (.t 12)))⟩ :: Q3_8_6
def Q3_8_4 : List AOp := ⟨(.some 57), .none, (.plain (.mv (.t 56)))⟩ :: ⟨(.some 58), (.some (57, true)), (.plain (.mv (.t 2)))⟩ :: ⟨(.some 59), (.some (57, true)), (.plain (.mv (.t 3)))⟩ :: ⟨(.some 60), (.some (57, true)), (.call 20 [(.t 58), (.t 59)])⟩ :: ⟨(.some 61), (.some (57, true)), (.plain (.mv (.t 2)))⟩ :: ⟨(.some 62), (.some (57, true)), (.plain (.mv (.t 3)))⟩ :: ⟨(.some 63), (.some (57, true)), (.call 21 [(.t 61), (.t 62)])⟩ :: ⟨(.some 64), (.some (57, true)), (.plain (.eqA false [.i, .i, .i, .i] (.t 60) (.t 63)))⟩ :: Q3_8_5
def Q3_8_3 : List AOp := ⟨(.some 49), .none, (.plain (.mv (.t 48)))⟩ :: ⟨(.some 50), (.some (49, true)), (.plain (.loadN 4 (.t 6)))⟩ :: ⟨(.some 51), (.some (49, true)), (.call 19 [(.t 50)])⟩ :: ⟨(.some 52), (.some (49, true)), (.plain (.loadN 4 (.t 6)))⟩ :: ⟨(.some 53), (.some (49, true)), (.call 16 [(.t 52)])⟩ :: ⟨(.some 54), (.some (49, true)), (.plain (.len (.t 53)))⟩ :: ⟨(.some 55), (.some (49, true)), (.plain (.binI .eql (.t 51) (.t 54)))⟩ :: ⟨(.some 56), .none, (.plain (.pick (.t 49) (.t 55) (.c (.bool false))))⟩ :: Q3_8_4
def Q3_8_2 : List AOp := ⟨(.some 41), (.some (40, true)), (.plain (.loadN 4 (.t 6)))⟩ :: ⟨(.some 42), (.some (40, true)), (.plain (.mv (.t 2)))⟩ :: ⟨(.some 43), (.some (40, true)), (.call 17 [(.t 41), (.t 42)])⟩ :: ⟨(.some 44), (.some (40, true)), (.plain (.loadN 4 (.t 6)))⟩ :: ⟨(.some 45), (.some (40, true)), (.plain (.mv (.t 2)))⟩ :: ⟨(.some 46), (.some (40, true)), (.call 18 [(.t 44), (.t 45)])⟩ :: ⟨(.some 47), (.some (40, true)), (.plain (.eqB false (.t 43) (.t 46)))⟩ :: ⟨(.some 48), .none, (.plain (.pick (.t 40) (.t 47) (.c (.bool false))))⟩ :: Q3_8_3
def Q3_8_1 : List AOp := ⟨(.some 33), .none, (.plain (.mv (.t 32)))⟩ :: ⟨(.some 34), (.some (33, true)), (.plain (.loadN 4 (.t 6)))⟩ :: ⟨(.some 35), (.some (33, true)), (.call 15 [(.t 34)])⟩ :: ⟨(.some 36), (.some (33, true)), (.plain (.loadN 4 (.t 6)))⟩ :: ⟨(.some 37), (.some (33, true)), (.call 16 [(.t 36)])⟩ :: ⟨(.some 38), (.some (33, true)), (.call 14 [(.t 35), (.t 37)])⟩ :: ⟨(.some 39), .none, (.plain (.pick (.t 33) (.t 38) (.c (.bool false))))⟩ :: ⟨(.some 40), .none, (.plain (.mv (.t 39)))⟩ :: Q3_8_2
def Q3_8 : List AOp := ⟨(.some 25), .none, (.call 11 [])⟩ :: ⟨(.some 26), .none, (.plain (.mv (.t 25)))⟩ :: ⟨(.some 27), (.some (26, true)), (.plain (.mv (.t 0)))⟩ :: ⟨(.some 28), (.some (26, true)), (.call 12 [(.t 27)])⟩ :: ⟨(.some 29), (.some (26, true)), (.plain (.mv (.t 0)))⟩ :: ⟨(.some 30), (.some (26, true)), (.call 13 [(.t 29)])⟩ :: ⟨(.some 31), (.some (26, true)), (.plain (.eqA false [.i, .i, .i, .i] (.t 28) (.t 30)))⟩ :: ⟨(.some 32), .none, (.plain (.pick (.t 26) (.t 31) (.c (.bool false))))⟩ :: Q3_8_1
def S3_8 : List AOp := []
def C3_8 : ACode := .draw [] 0 0 Q3_8 S3_8
def C3_9 : ACode := .ret
def C3_7 : ACode := .seq C3_8 C3_9
def C3_5 : ACode := .seq C3_6 C3_7
def C3_3 : ACode := .seq C3_4 C3_5
def C3_1 : ACode := .seq C3_2 C3_3
def R3 : List RA := [(.tmp 10)]
theorem k3 : compF Try.prog (muL []) 3 = some ⟨76, C3_1, R3⟩ := by kernel_rfl
noncomputable def X3 (r : Bool) : Cx := ⟨Try.prog, noG, 76, muL [], R3, isD (fun x => x = AV.bool r)⟩
noncomputable def F3 (b : Sl Int) (s : Arr 4 Int) (from_ : Int) (to_ : Int) (name : Str) : Option Bool :=
  (F9 name >>= fun r7 =>
    (F10 name >>= fun r21 =>
      (F11 >>= fun r38 =>
        (if r38 = true then
          (F12 b >>= fun r41 =>
            (F13 b >>= fun r43 =>
              (if (decide (r41 = r43)) = true then
                (F15 s >>= fun r46 =>
                  (F16 s >>= fun r48 =>
                    (F14 r46 r48 >>= fun r50 =>
                      (if r50 = true then
                        (F17 s from_ >>= fun r53 =>
                          (F18 s from_ >>= fun r55 =>
                            (if (r53 == r55) = true then
                              (F19 s >>= fun r58 =>
                                (F16 s >>= fun r60 =>
                                  (if (r58 == ((ls r60).length : Int)) = true then
                                    (F20 from_ to_ >>= fun r63 =>
                                      (F21 from_ to_ >>= fun r65 =>
                                        (if (decide (r63 = r65)) = true then
                                          (if (decide (r7.1 = r21.1)) = true then
                                            (some (r7.2 == r21.2))
                                          else
                                            (some false))
                                        else
                                          (some false))))
                                  else
                                    (some false))))
                            else
                              (some false))))
                      else
                        (some false)))))
              else
                (some false))))
        else
          (some false)))))
theorem d3 (b : Sl Int) (s : Arr 4 Int) (from_ : Int) (to_ : Int) (name : Str) (r : Bool) (hF : F3 b s from_ to_ name = some r) : DFun Try.prog noG 3 [slV 1 (AV.int .u8) b, AV.agg (c24 s), AV.int .u8 from_, AV.int .u8 to_, AV.str name] (AV.bool r) := by
  unfold F3 at hF
  refine dfun_at k3 (Nat.le_of_ble_eq_true rfl) ?_
  show At (X3 r) _ _ _ _
  refine at_seq (a := C3_2) (b := C3_3) ?_
  refine at_ops (l := O3_2) ?_
  refine xo_box (cs := c24 s) rfl rfl (c24_len _) fun s2 i3 o4 k5 q6 => ?_
  refine xo (e_mv' (v := AV.bool false) rfl) ?_
  refine ato_nil ?_
  refine atn_seq ?_
  refine at_seq (a := C3_4) (b := C3_5) ?_
  refine at_ops (l := O3_4) ?_
  refine xo (e_mv' (v := AV.str name) rfl) ?_
  obtain ⟨r7, g8, hF⟩ := bind_some hF
  refine xo_dfun' (d9 name _ g8) (dsl_cons (ds_eq rfl ds_s) dsl_nil) ?_
  refine xo (e_mv' (v := AV.tup [AV.agg (c24 r7.1), AV.bool r7.2]) rfl) ?_
  refine xo (e_extract (v := AV.agg (c24 r7.1)) rfl rfl) ?_
  refine xo (e_extract (v := AV.bool r7.2) rfl rfl) ?_
  refine xo_alloc (cs := c24 (Arr.rep 4 0)) rfl fun s10 i11 o12 k13 q14 => ?_
  have n15 : i3 ≠ i11 := fun e => ne_new o4 (e.trans q14)
  have o16 := keep0 k13 o4
  refine xo_store rfl o12 (LR.whole _ _) (c24_len _) rfl rfl (c24_len _) (c24_one _) fun s17 o18 k19 => ?_
  have o20 := k19 _ _ o16 n15
  refine xo (e_mv' (v := AV.bool r7.2) rfl) ?_
  refine ato_nil ?_
  refine atn_seq ?_
  refine at_seq (a := C3_6) (b := C3_7) ?_
  refine at_ops (l := O3_6) ?_
  refine xo (e_mv' (v := AV.str name) rfl) ?_
  obtain ⟨r21, g22, hF⟩ := bind_some hF
  refine xo_dfun' (d10 name _ g22) (dsl_cons (ds_eq rfl ds_s) dsl_nil) ?_
  refine xo (e_mv' (v := AV.tup [AV.agg (c24 r21.1), AV.bool r21.2]) rfl) ?_
  refine xo (e_extract (v := AV.agg (c24 r21.1)) rfl rfl) ?_
  refine xo (e_extract (v := AV.bool r21.2) rfl rfl) ?_
  refine xo_alloc (cs := c24 (Arr.rep 4 0)) rfl fun s24 i25 o26 k27 q28 => ?_
  have n29 : i3 ≠ i25 := fun e => ne_new o20 (e.trans q28)
  have n30 : i11 ≠ i25 := fun e => ne_new o18 (e.trans q28)
  have o31 := keep0 k27 o20
  have o32 := keep0 k27 o18
  refine xo_store rfl o26 (LR.whole _ _) (c24_len _) rfl rfl (c24_len _) (c24_one _) fun s33 o34 k35 => ?_
  have o36 := k35 _ _ o31 n29
  have o37 := k35 _ _ o32 n30
  refine xo (e_mv' (v := AV.bool r21.2) rfl) ?_
  refine ato_nil ?_
  refine atn_seq ?_
  refine at_seq (a := C3_8) (b := C3_9) ?_
  refine at_draw0 (q := Q3_8) (suf := S3_8) ?_
  obtain ⟨r38, g39, hF⟩ := bind_some hF
  refine xd_dfun' (d11 _ g39) dsl_nil ?_
  refine xd rfl (e_mv' (v := AV.bool r38) rfl) ?_
  refine bsplit (b := r38) (fun c40 => ?_) (fun c40 => ?_)
  · have hF := ite_t c40 hF
    refine xd_on rfl c40 ?_
    refine xd rfl (e_mv' (v := slV 1 (AV.int .u8) b) rfl) ?_
    obtain ⟨r41, g42, hF⟩ := bind_some hF
    refine xd_on rfl c40 ?_
    refine xd_dfun' (d12 b _ g42) (dsl_cons (ds_eq rfl (ds_sl (fun _ => ds_i))) dsl_nil) ?_
    refine xd_on rfl c40 ?_
    refine xd rfl (e_mv' (v := slV 1 (AV.int .u8) b) rfl) ?_
    obtain ⟨r43, g44, hF⟩ := bind_some hF
    refine xd_on rfl c40 ?_
    refine xd_dfun' (d13 b _ g44) (dsl_cons (ds_eq rfl (ds_sl (fun _ => ds_i))) dsl_nil) ?_
    refine xd_on rfl c40 ?_
    refine xd rfl (e_eqA rfl rfl (c24_eq _ _)) ?_
    refine xd rfl (e_pick_t (v := AV.bool (decide (r41 = r43))) rfl c40 rfl) ?_
    refine xd rfl (e_mv' (v := AV.bool (decide (r41 = r43))) rfl) ?_
    refine bsplit (b := decide (r41 = r43)) (fun c45 => ?_) (fun c45 => ?_)
    · have hF := ite_t c45 hF
      refine xd_on rfl c45 ?_
      refine xd rfl (e_loadN rfl o36 (LR.whole _ _) (c24_len _)) ?_
      obtain ⟨r46, g47, hF⟩ := bind_some hF
      refine xd_on rfl c45 ?_
      refine xd_dfun' (d15 s _ g47) (dsl_cons (ds_eq rfl (ds_agg (c24_ds _))) dsl_nil) ?_
      refine xd_on rfl c45 ?_
      refine xd rfl (e_loadN rfl o36 (LR.whole _ _) (c24_len _)) ?_
      obtain ⟨r48, g49, hF⟩ := bind_some hF
      refine xd_on rfl c45 ?_
      refine xd_dfun' (d16 s _ g49) (dsl_cons (ds_eq rfl (ds_agg (c24_ds _))) dsl_nil) ?_
      obtain ⟨r50, g51, hF⟩ := bind_some hF
      refine xd_on rfl c45 ?_
      refine xd_dfun' (d14 r46 r48 _ g51) (dsl_cons (ds_eq rfl (ds_sl (fun _ => ds_i))) (dsl_cons (ds_eq rfl (ds_sl (fun _ => ds_i))) dsl_nil)) ?_
      refine xd rfl (e_pick_t (v := AV.bool r50) rfl c45 rfl) ?_
      refine xd rfl (e_mv' (v := AV.bool r50) rfl) ?_
      refine bsplit (b := r50) (fun c52 => ?_) (fun c52 => ?_)
      · have hF := ite_t c52 hF
        refine xd_on rfl c52 ?_
        refine xd rfl (e_loadN rfl o36 (LR.whole _ _) (c24_len _)) ?_
        refine xd_on rfl c52 ?_
        refine xd rfl (e_mv' (v := AV.int .u8 from_) rfl) ?_
        obtain ⟨r53, g54, hF⟩ := bind_some hF
        refine xd_on rfl c52 ?_
        refine xd_dfun' (d17 s from_ _ g54) (dsl_cons (ds_eq rfl (ds_agg (c24_ds _))) (dsl_cons (ds_eq rfl ds_i) dsl_nil)) ?_
        refine xd_on rfl c52 ?_
        refine xd rfl (e_loadN rfl o36 (LR.whole _ _) (c24_len _)) ?_
        refine xd_on rfl c52 ?_
        refine xd rfl (e_mv' (v := AV.int .u8 from_) rfl) ?_
        obtain ⟨r55, g56, hF⟩ := bind_some hF
        refine xd_on rfl c52 ?_
        refine xd_dfun' (d18 s from_ _ g56) (dsl_cons (ds_eq rfl (ds_agg (c24_ds _))) (dsl_cons (ds_eq rfl ds_i) dsl_nil)) ?_
        refine xd_on rfl c52 ?_
        refine xd rfl (e_eqB rfl rfl) ?_
        refine xd rfl (e_pick_t (v := AV.bool (r53 == r55)) rfl c52 rfl) ?_
        refine xd rfl (e_mv' (v := AV.bool (r53 == r55)) rfl) ?_
        refine bsplit (b := (r53 == r55)) (fun c57 => ?_) (fun c57 => ?_)
        · have hF := ite_t c57 hF
          refine xd_on rfl c57 ?_
          refine xd rfl (e_loadN rfl o36 (LR.whole _ _) (c24_len _)) ?_
          obtain ⟨r58, g59, hF⟩ := bind_some hF
          refine xd_on rfl c57 ?_
          refine xd_dfun' (d19 s _ g59) (dsl_cons (ds_eq rfl (ds_agg (c24_ds _))) dsl_nil) ?_
          refine xd_on rfl c57 ?_
          refine xd rfl (e_loadN rfl o36 (LR.whole _ _) (c24_len _)) ?_
          obtain ⟨r60, g61, hF⟩ := bind_some hF
          refine xd_on rfl c57 ?_
          refine xd_dfun' (d16 s _ g61) (dsl_cons (ds_eq rfl (ds_agg (c24_ds _))) dsl_nil) ?_
          refine xd_on rfl c57 ?_
          refine xd rfl (e_len (rd_V rfl)) ?_
          refine xd_on rfl c57 ?_
          refine xd rfl (e_bin (v := .bool ((r58 == ((ls r60).length : Int)))) rfl rfl rfl) ?_
          refine xd rfl (e_pick_t (v := AV.bool (r58 == ((ls r60).length : Int))) rfl c57 rfl) ?_
          refine xd rfl (e_mv' (v := AV.bool (r58 == ((ls r60).length : Int))) rfl) ?_
          refine bsplit (b := (r58 == ((ls r60).length : Int))) (fun c62 => ?_) (fun c62 => ?_)
          · have hF := ite_t c62 hF
            refine xd_on rfl c62 ?_
            refine xd rfl (e_mv' (v := AV.int .u8 from_) rfl) ?_
            refine xd_on rfl c62 ?_
            refine xd rfl (e_mv' (v := AV.int .u8 to_) rfl) ?_
            obtain ⟨r63, g64, hF⟩ := bind_some hF
            refine xd_on rfl c62 ?_
            refine xd_dfun' (d20 from_ to_ _ g64) (dsl_cons (ds_eq rfl ds_i) (dsl_cons (ds_eq rfl ds_i) dsl_nil)) ?_
            refine xd_on rfl c62 ?_
            refine xd rfl (e_mv' (v := AV.int .u8 from_) rfl) ?_
            refine xd_on rfl c62 ?_
            refine xd rfl (e_mv' (v := AV.int .u8 to_) rfl) ?_
            obtain ⟨r65, g66, hF⟩ := bind_some hF
            refine xd_on rfl c62 ?_
            refine xd_dfun' (d21 from_ to_ _ g66) (dsl_cons (ds_eq rfl ds_i) (dsl_cons (ds_eq rfl ds_i) dsl_nil)) ?_
            refine xd_on rfl c62 ?_
            refine xd rfl (e_eqA rfl rfl (c24_eq _ _)) ?_
            refine xd rfl (e_pick_t (v := AV.bool (decide (r63 = r65))) rfl c62 rfl) ?_
            refine xd rfl (e_mv' (v := AV.bool (decide (r63 = r65))) rfl) ?_
            refine bsplit (b := decide (r63 = r65)) (fun c67 => ?_) (fun c67 => ?_)
            · have hF := ite_t c67 hF
              refine xd_on rfl c67 ?_
              refine xd rfl (e_loadN rfl o37 (LR.whole _ _) (c24_len _)) ?_
              refine xd_on rfl c67 ?_
              refine xd rfl (e_loadN rfl o34 (LR.whole _ _) (c24_len _)) ?_
              refine xd_on rfl c67 ?_
              refine xd rfl (e_eqA rfl rfl (c24_eq _ _)) ?_
              refine xd rfl (e_pick_t (v := AV.bool (decide (r7.1 = r21.1))) rfl c67 rfl) ?_
              refine xd rfl (e_mv' (v := AV.bool (decide (r7.1 = r21.1))) rfl) ?_
              refine bsplit (b := decide (r7.1 = r21.1)) (fun c68 => ?_) (fun c68 => ?_)
              · have hF := ite_t c68 hF
                refine xd_on rfl c68 ?_
                refine xd rfl (e_mv' (v := AV.bool r7.2) rfl) ?_
                refine xd_on rfl c68 ?_
                refine xd rfl (e_mv' (v := AV.bool r21.2) rfl) ?_
                refine xd_on rfl c68 ?_
                refine xd rfl (e_eqB rfl rfl) ?_
                refine xd rfl (e_pick_t (v := AV.bool (r7.2 == r21.2)) rfl c68 rfl) ?_
                refine xd rfl (e_mv' (v := AV.bool (r7.2 == r21.2)) rfl) ?_
                refine atd_nil ?_
                refine ato_nil ?_
                refine atn_seq ?_
                refine at_ret ?_
                cases hF
                exact atr (rl_tmp rfl rl_nil) (isd (ds_eq rfl ds_b))
              · have hF := ite_f c68 hF
                refine xd_off rfl c68 rfl ?_
                refine xd_off rfl c68 rfl ?_
                refine xd_off rfl c68 rfl ?_
                refine xd rfl (e_pick_f (v := AV.bool false) rfl c68 rfl) ?_
                refine xd rfl (e_mv' (v := AV.bool false) rfl) ?_
                refine atd_nil ?_
                refine ato_nil ?_
                refine atn_seq ?_
                refine at_ret ?_
                cases hF
                exact atr (rl_tmp rfl rl_nil) (isd (ds_eq rfl ds_b))
            · have hF := ite_f c67 hF
              refine xd_off rfl c67 rfl ?_
              refine xd_off rfl c67 rfl ?_
              refine xd_off rfl c67 rfl ?_
              refine xd rfl (e_pick_f (v := AV.bool false) rfl c67 rfl) ?_
              refine xd rfl (e_mv' (v := AV.bool false) rfl) ?_
              refine xd_off rfl rfl rfl ?_
              refine xd_off rfl rfl rfl ?_
              refine xd_off rfl rfl rfl ?_
              refine xd rfl (e_pick_f (v := AV.bool false) rfl rfl rfl) ?_
              refine xd rfl (e_mv' (v := AV.bool false) rfl) ?_
              refine atd_nil ?_
              refine ato_nil ?_
              refine atn_seq ?_
              refine at_ret ?_
              cases hF
              exact atr (rl_tmp rfl rl_nil) (isd (ds_eq rfl ds_b))
          · have hF := ite_f c62 hF
            refine xd_off rfl c62 rfl ?_
            refine xd_off rfl c62 rfl ?_
            refine xd_off rfl c62 rfl ?_
            refine xd_off rfl c62 rfl ?_
            refine xd_off rfl c62 rfl ?_
            refine xd_off rfl c62 rfl ?_
            refine xd_off rfl c62 rfl ?_
            refine xd rfl (e_pick_f (v := AV.bool false) rfl c62 rfl) ?_
            refine xd rfl (e_mv' (v := AV.bool false) rfl) ?_
            refine xd_off rfl rfl rfl ?_
            refine xd_off rfl rfl rfl ?_
            refine xd_off rfl rfl rfl ?_
            refine xd rfl (e_pick_f (v := AV.bool false) rfl rfl rfl) ?_
            refine xd rfl (e_mv' (v := AV.bool false) rfl) ?_
            refine xd_off rfl rfl rfl ?_
            refine xd_off rfl rfl rfl ?_
            refine xd_off rfl rfl rfl ?_
            refine xd rfl (e_pick_f (v := AV.bool false) rfl rfl rfl) ?_
            refine xd rfl (e_mv' (v := AV.bool false) rfl) ?_
            refine atd_nil ?_
            refine ato_nil ?_
            refine atn_seq ?_
            refine at_ret ?_
            cases hF
            exact atr (rl_tmp rfl rl_nil) (isd (ds_eq rfl ds_b))
        · have hF := ite_f c57 hF
          refine xd_off rfl c57 rfl ?_
          refine xd_off rfl c57 rfl ?_
          refine xd_off rfl c57 rfl ?_
          refine xd_off rfl c57 rfl ?_
          refine xd_off rfl c57 rfl ?_
          refine xd_off rfl c57 rfl ?_
          refine xd rfl (e_pick_f (v := AV.bool false) rfl c57 rfl) ?_
          refine xd rfl (e_mv' (v := AV.bool false) rfl) ?_
          refine xd_off rfl rfl rfl ?_
          refine xd_off rfl rfl rfl ?_
          refine xd_off rfl rfl rfl ?_
          refine xd_off rfl rfl rfl ?_
          refine xd_off rfl rfl rfl ?_
          refine xd_off rfl rfl rfl ?_
          refine xd_off rfl rfl rfl ?_
          refine xd rfl (e_pick_f (v := AV.bool false) rfl rfl rfl) ?_
          refine xd rfl (e_mv' (v := AV.bool false) rfl) ?_
          refine xd_off rfl rfl rfl ?_
          refine xd_off rfl rfl rfl ?_
          refine xd_off rfl rfl rfl ?_
          refine xd rfl (e_pick_f (v := AV.bool false) rfl rfl rfl) ?_
          refine xd rfl (e_mv' (v := AV.bool false) rfl) ?_
          refine xd_off rfl rfl rfl ?_
          refine xd_off rfl rfl rfl ?_
          refine xd_off rfl rfl rfl ?_
          refine xd rfl (e_pick_f (v := AV.bool false) rfl rfl rfl) ?_
          refine xd rfl (e_mv' (v := AV.bool false) rfl) ?_
          refine atd_nil ?_
          refine ato_nil ?_
          refine atn_seq ?_
          refine at_ret ?_
          cases hF
          exact atr (rl_tmp rfl rl_nil) (isd (ds_eq rfl ds_b))
      · have hF := ite_f c52 hF
        refine xd_off rfl c52 rfl ?_
        refine xd_off rfl c52 rfl ?_
        refine xd_off rfl c52 rfl ?_
        refine xd_off rfl c52 rfl ?_
        refine xd_off rfl c52 rfl ?_
        refine xd_off rfl c52 rfl ?_
        refine xd_off rfl c52 rfl ?_
        refine xd rfl (e_pick_f (v := AV.bool false) rfl c52 rfl) ?_
        refine xd rfl (e_mv' (v := AV.bool false) rfl) ?_
        refine xd_off rfl rfl rfl ?_
        refine xd_off rfl rfl rfl ?_
        refine xd_off rfl rfl rfl ?_
        refine xd_off rfl rfl rfl ?_
        refine xd_off rfl rfl rfl ?_
        refine xd_off rfl rfl rfl ?_
        refine xd rfl (e_pick_f (v := AV.bool false) rfl rfl rfl) ?_
        refine xd rfl (e_mv' (v := AV.bool false) rfl) ?_
        refine xd_off rfl rfl rfl ?_
        refine xd_off rfl rfl rfl ?_
        refine xd_off rfl rfl rfl ?_
        refine xd_off rfl rfl rfl ?_
        refine xd_off rfl rfl rfl ?_
        refine xd_off rfl rfl rfl ?_
        refine xd_off rfl rfl rfl ?_
        refine xd rfl (e_pick_f (v := AV.bool false) rfl rfl rfl) ?_
        refine xd rfl (e_mv' (v := AV.bool false) rfl) ?_
        refine xd_off rfl rfl rfl ?_
        refine xd_off rfl rfl rfl ?_
        refine xd_off rfl rfl rfl ?_
        refine xd rfl (e_pick_f (v := AV.bool false) rfl rfl rfl) ?_
        refine xd rfl (e_mv' (v := AV.bool false) rfl) ?_
        refine xd_off rfl rfl rfl ?_
        refine xd_off rfl rfl rfl ?_
        refine xd_off rfl rfl rfl ?_
        refine xd rfl (e_pick_f (v := AV.bool false) rfl rfl rfl) ?_
        refine xd rfl (e_mv' (v := AV.bool false) rfl) ?_
        refine atd_nil ?_
        refine ato_nil ?_
        refine atn_seq ?_
        refine at_ret ?_
        cases hF
        exact atr (rl_tmp rfl rl_nil) (isd (ds_eq rfl ds_b))
    · have hF := ite_f c45 hF
      refine xd_off rfl c45 rfl ?_
      refine xd_off rfl c45 rfl ?_
      refine xd_off rfl c45 rfl ?_
      refine xd_off rfl c45 rfl ?_
      refine xd_off rfl c45 rfl ?_
      refine xd rfl (e_pick_f (v := AV.bool false) rfl c45 rfl) ?_
      refine xd rfl (e_mv' (v := AV.bool false) rfl) ?_
      refine xd_off rfl rfl rfl ?_
      refine xd_off rfl rfl rfl ?_
      refine xd_off rfl rfl rfl ?_
      refine xd_off rfl rfl rfl ?_
      refine xd_off rfl rfl rfl ?_
      refine xd_off rfl rfl rfl ?_
      refine xd_off rfl rfl rfl ?_
      refine xd rfl (e_pick_f (v := AV.bool false) rfl rfl rfl) ?_
      refine xd rfl (e_mv' (v := AV.bool false) rfl) ?_
      refine xd_off rfl rfl rfl ?_
      refine xd_off rfl rfl rfl ?_
      refine xd_off rfl rfl rfl ?_
      refine xd_off rfl rfl rfl ?_
      refine xd_off rfl rfl rfl ?_
      refine xd_off rfl rfl rfl ?_
      refine xd rfl (e_pick_f (v := AV.bool false) rfl rfl rfl) ?_
      refine xd rfl (e_mv' (v := AV.bool false) rfl) ?_
      refine xd_off rfl rfl rfl ?_
      refine xd_off rfl rfl rfl ?_
      refine xd_off rfl rfl rfl ?_
      refine xd_off rfl rfl rfl ?_
      refine xd_off rfl rfl rfl ?_
      refine xd_off rfl rfl rfl ?_
      refine xd_off rfl rfl rfl ?_
      refine xd rfl (e_pick_f (v := AV.bool false) rfl rfl rfl) ?_
      refine xd rfl (e_mv' (v := AV.bool false) rfl) ?_
      refine xd_off rfl rfl rfl ?_
      refine xd_off rfl rfl rfl ?_
      refine xd_off rfl rfl rfl ?_
      refine xd rfl (e_pick_f (v := AV.bool false) rfl rfl rfl) ?_
      refine xd rfl (e_mv' (v := AV.bool false) rfl) ?_
      refine xd_off rfl rfl rfl ?_
      refine xd_off rfl rfl rfl ?_
      refine xd_off rfl rfl rfl ?_
      refine xd rfl (e_pick_f (v := AV.bool false) rfl rfl rfl) ?_
      refine xd rfl (e_mv' (v := AV.bool false) rfl) ?_
      refine atd_nil ?_
      refine ato_nil ?_
      refine atn_seq ?_
      refine at_ret ?_
      cases hF
      exact atr (rl_tmp rfl rl_nil) (isd (ds_eq rfl ds_b))
  · have hF := ite_f c40 hF
    refine xd_off rfl c40 rfl ?_
    refine xd_off rfl c40 rfl ?_
    refine xd_off rfl c40 rfl ?_
    refine xd_off rfl c40 rfl ?_
    refine xd_off rfl c40 rfl ?_
    refine xd rfl (e_pick_f (v := AV.bool false) rfl c40 rfl) ?_
    refine xd rfl (e_mv' (v := AV.bool false) rfl) ?_
    refine xd_off rfl rfl rfl ?_
    refine xd_off rfl rfl rfl ?_
    refine xd_off rfl rfl rfl ?_
    refine xd_off rfl rfl rfl ?_
    refine xd_off rfl rfl rfl ?_
    refine xd rfl (e_pick_f (v := AV.bool false) rfl rfl rfl) ?_
    refine xd rfl (e_mv' (v := AV.bool false) rfl) ?_
    refine xd_off rfl rfl rfl ?_
    refine xd_off rfl rfl rfl ?_
    refine xd_off rfl rfl rfl ?_
    refine xd_off rfl rfl rfl ?_
    refine xd_off rfl rfl rfl ?_
    refine xd_off rfl rfl rfl ?_
    refine xd_off rfl rfl rfl ?_
    refine xd rfl (e_pick_f (v := AV.bool false) rfl rfl rfl) ?_
    refine xd rfl (e_mv' (v := AV.bool false) rfl) ?_
    refine xd_off rfl rfl rfl ?_
    refine xd_off rfl rfl rfl ?_
    refine xd_off rfl rfl rfl ?_
    refine xd_off rfl rfl rfl ?_
    refine xd_off rfl rfl rfl ?_
    refine xd_off rfl rfl rfl ?_
    refine xd rfl (e_pick_f (v := AV.bool false) rfl rfl rfl) ?_
    refine xd rfl (e_mv' (v := AV.bool false) rfl) ?_
    refine xd_off rfl rfl rfl ?_
    refine xd_off rfl rfl rfl ?_
    refine xd_off rfl rfl rfl ?_
    refine xd_off rfl rfl rfl ?_
    refine xd_off rfl rfl rfl ?_
    refine xd_off rfl rfl rfl ?_
    refine xd_off rfl rfl rfl ?_
    refine xd rfl (e_pick_f (v := AV.bool false) rfl rfl rfl) ?_
    refine xd rfl (e_mv' (v := AV.bool false) rfl) ?_
    refine xd_off rfl rfl rfl ?_
    refine xd_off rfl rfl rfl ?_
    refine xd_off rfl rfl rfl ?_
    refine xd rfl (e_pick_f (v := AV.bool false) rfl rfl rfl) ?_
    refine xd rfl (e_mv' (v := AV.bool false) rfl) ?_
    refine xd_off rfl rfl rfl ?_
    refine xd_off rfl rfl rfl ?_
    refine xd_off rfl rfl rfl ?_
    refine xd rfl (e_pick_f (v := AV.bool false) rfl rfl rfl) ?_
    refine xd rfl (e_mv' (v := AV.bool false) rfl) ?_
    refine atd_nil ?_
    refine ato_nil ?_
    refine atn_seq ?_
    refine at_ret ?_
    cases hF
    exact atr (rl_tmp rfl rl_nil) (isd (ds_eq rfl ds_b))
/-! ### 4: paddock/paddocklaw07.SetsBrackets -/
def O4_2 : List AOp := [⟨(.some 2), .none, (.plain (.mv (.c (.bool false))))⟩]
def C4_2 : ACode := .ops O4_2
def O4_4_1 : List AOp := ⟨.none, .none, (.plain (.store 4 (.t 3) (.t 14)))⟩ :: ⟨(.some 4), .none, (.plain (.mv (.t 15)))⟩ :: ⟨(.some 5), .none, (.plain (.mv (.t 16)))⟩ :: ⟨(.some 6), .none, (.plain (.mv (.t 17)))⟩ :: []
def O4_4 : List AOp := ⟨(.some 12), .none, (.plain (.mv (.t 0)))⟩ :: ⟨(.some 13), .none, (.call 22 [(.t 12)])⟩ :: ⟨(.some 11), .none, (.plain (.mv (.t 13)))⟩ :: ⟨(.some 14), .none, (.plain (.extract (.t 11) 0))⟩ :: ⟨(.some 15), .none, (.plain (.extract (.t 11) 1))⟩ :: ⟨(.some 16), .none, (.plain (.extract (.t 11) 2))⟩ :: ⟨(.some 17), .none, (.plain (.extract (.t 11) 3))⟩ :: ⟨(.some 3), .none, (.plain (.alloc [(.int .u64 0), (.int .u64 0), (.int .u64 0), (.int .u64 0)]))⟩ :: O4_4_1
def C4_4 : ACode := .ops O4_4
def O4_6_1 : List AOp := ⟨.none, .none, (.plain (.store 4 (.t 7) (.t 21)))⟩ :: ⟨(.some 8), .none, (.plain (.mv (.t 22)))⟩ :: ⟨(.some 9), .none, (.plain (.mv (.t 23)))⟩ :: ⟨(.some 10), .none, (.plain (.mv (.t 24)))⟩ :: []
def O4_6 : List AOp := ⟨(.some 19), .none, (.plain (.mv (.t 0)))⟩ :: ⟨(.some 20), .none, (.call 23 [(.t 19)])⟩ :: ⟨(.some 18), .none, (.plain (.mv (.t 20)))⟩ :: ⟨(.some 21), .none, (.plain (.extract (.t 18) 0))⟩ :: ⟨(.some 22), .none, (.plain (.extract (.t 18) 1))⟩ :: ⟨(.some 23), .none, (.plain (.extract (.t 18) 2))⟩ :: ⟨(.some 24), .none, (.plain (.extract (.t 18) 3))⟩ :: ⟨(.some 7), .none, (.plain (.alloc [(.int .u64 0), (.int .u64 0), (.int .u64 0), (.int .u64 0)]))⟩ :: O4_6_1
def C4_6 : ACode := .ops O4_6
def O4_8_2 : List AOp := ⟨(.some 41), .none, (.plain (.mv (.t 40)))⟩ :: ⟨(.some 42), (.some (41, true)), (.plain (.mv (.t 6)))⟩ :: ⟨(.some 43), (.some (41, true)), (.plain (.mv (.t 10)))⟩ :: ⟨(.some 44), (.some (41, true)), (.plain (.binI .eql (.t 42) (.t 43)))⟩ :: ⟨(.some 45), .none, (.plain (.pick (.t 41) (.t 44) (.c (.bool false))))⟩ :: ⟨(.some 2), .none, (.plain (.mv (.t 45)))⟩ :: []
def O4_8_1 : List AOp := ⟨(.some 33), (.some (31, true)), (.plain (.mv (.t 8)))⟩ :: ⟨(.some 34), (.some (31, true)), (.plain (.binI .eql (.t 32) (.t 33)))⟩ :: ⟨(.some 35), .none, (.plain (.pick (.t 31) (.t 34) (.c (.bool false))))⟩ :: ⟨(.some 36), .none, (.plain (.mv (.t 35)))⟩ :: ⟨(.some 37), (.some (36, true)), (.plain (.mv (.t 5)))⟩ :: ⟨(.some 38), (.some (36, true)), (.plain (.mv (.t 9)))⟩ :: ⟨(.some 39), (.some (36, true)), (.plain (.binI .eql (.t 37) (.t 38)))⟩ :: ⟨(.some 40), .none, (.plain (.pick (.t 36) (.t 39) (.c (.bool false))))⟩ :: O4_8_2
def O4_8 : List AOp := ⟨(.some 25), .none, (.call 11 [])⟩ :: ⟨(.some 26), .none, (.plain (.mv (.t 25)))⟩ :: ⟨(.some 27), (.some (26, true)), (.plain (.loadN 4 (.t 3)))⟩ :: ⟨(.some 28), (.some (26, true)), (.plain (.loadN 4 (.t 7)))⟩ :: ⟨(.some 29), (.some (26, true)), (.plain (.eqA false [.i, .i, .i, .i] (.t 27) (.t 28)))⟩ :: ⟨(.some 30), .none, (.plain (.pick (.t 26) (.t 29) (.c (.bool false))))⟩ :: ⟨(.some 31), .none, (.plain (.mv (.t 30)))⟩ :: ⟨(.some 32), (.some (31, true)), (.plain (.mv (.t 4)))⟩ :: O4_8_1
def C4_8 : ACode := .ops O4_8
def C4_9 : ACode := .ret
def C4_7 : ACode := .seq C4_8 C4_9
def C4_5 : ACode := .seq C4_6 C4_7
def C4_3 : ACode := .seq C4_4 C4_5
def C4_1 : ACode := .seq C4_2 C4_3
def R4 : List RA := [(.tmp 2)]
theorem k4 : compF Try.prog (muL []) 4 = some ⟨46, C4_1, R4⟩ := by kernel_rfl
noncomputable def X4 (r : Bool) : Cx := ⟨Try.prog, noG, 46, muL [], R4, isD (fun x => x = AV.bool r)⟩
noncomputable def F4 (s : Str) : Option Bool :=
  (F22 s >>= fun r1 =>
    (F23 s >>= fun r12 =>
      (F11 >>= fun r26 =>
        (if r26 = true then
          (if (decide (r1.1 = r12.1)) = true then
            (if (r1.2.1 == r12.2.1) = true then
              (if (r1.2.2.1 == r12.2.2.1) = true then
                (some (r1.2.2.2 == r12.2.2.2))
              else
                (some false))
            else
              (some false))
          else
            (some false))
        else
          (some false)))))
theorem d4 (s : Str) (r : Bool) (hF : F4 s = some r) : DFun Try.prog noG 4 [AV.str s] (AV.bool r) := by
  unfold F4 at hF
  refine dfun_at k4 (Nat.le_of_ble_eq_true rfl) ?_
  show At (X4 r) _ _ _ _
  refine at_seq (a := C4_2) (b := C4_3) ?_
  refine at_ops (l := O4_2) ?_
  refine xo (e_mv' (v := AV.bool false) rfl) ?_
  refine ato_nil ?_
  refine atn_seq ?_
  refine at_seq (a := C4_4) (b := C4_5) ?_
  refine at_ops (l := O4_4) ?_
  refine xo (e_mv' (v := AV.str s) rfl) ?_
  obtain ⟨r1, g2, hF⟩ := bind_some hF
  refine xo_dfun' (d22 s _ g2) (dsl_cons (ds_eq rfl ds_s) dsl_nil) ?_
  refine xo (e_mv' (v := AV.tup [AV.agg (c24 r1.1), AV.int .i64 r1.2.1, AV.int .i64 r1.2.2.1, AV.int .i64 r1.2.2.2]) rfl) ?_
  refine xo (e_extract (v := AV.agg (c24 r1.1)) rfl rfl) ?_
  refine xo (e_extract (v := AV.int .i64 r1.2.1) rfl rfl) ?_
  refine xo (e_extract (v := AV.int .i64 r1.2.2.1) rfl rfl) ?_
  refine xo (e_extract (v := AV.int .i64 r1.2.2.2) rfl rfl) ?_
  refine xo_alloc (cs := c24 (Arr.rep 4 0)) rfl fun s4 i5 o6 k7 q8 => ?_
  refine xo_store rfl o6 (LR.whole _ _) (c24_len _) rfl rfl (c24_len _) (c24_one _) fun s9 o10 k11 => ?_
  refine xo (e_mv' (v := AV.int .i64 r1.2.1) rfl) ?_
  refine xo (e_mv' (v := AV.int .i64 r1.2.2.1) rfl) ?_
  refine xo (e_mv' (v := AV.int .i64 r1.2.2.2) rfl) ?_
  refine ato_nil ?_
  refine atn_seq ?_
  refine at_seq (a := C4_6) (b := C4_7) ?_
  refine at_ops (l := O4_6) ?_
  refine xo (e_mv' (v := AV.str s) rfl) ?_
  obtain ⟨r12, g13, hF⟩ := bind_some hF
  refine xo_dfun' (d23 s _ g13) (dsl_cons (ds_eq rfl ds_s) dsl_nil) ?_
  refine xo (e_mv' (v := AV.tup [AV.agg (c24 r12.1), AV.int .i64 r12.2.1, AV.int .i64 r12.2.2.1, AV.int .i64 r12.2.2.2]) rfl) ?_
  refine xo (e_extract (v := AV.agg (c24 r12.1)) rfl rfl) ?_
  refine xo (e_extract (v := AV.int .i64 r12.2.1) rfl rfl) ?_
  refine xo (e_extract (v := AV.int .i64 r12.2.2.1) rfl rfl) ?_
  refine xo (e_extract (v := AV.int .i64 r12.2.2.2) rfl rfl) ?_
  refine xo_alloc (cs := c24 (Arr.rep 4 0)) rfl fun s15 i16 o17 k18 q19 => ?_
  have n20 : i5 ≠ i16 := fun e => ne_new o10 (e.trans q19)
  have o21 := keep0 k18 o10
  refine xo_store rfl o17 (LR.whole _ _) (c24_len _) rfl rfl (c24_len _) (c24_one _) fun s22 o23 k24 => ?_
  have o25 := k24 _ _ o21 n20
  refine xo (e_mv' (v := AV.int .i64 r12.2.1) rfl) ?_
  refine xo (e_mv' (v := AV.int .i64 r12.2.2.1) rfl) ?_
  refine xo (e_mv' (v := AV.int .i64 r12.2.2.2) rfl) ?_
  refine ato_nil ?_
  refine atn_seq ?_
  refine at_seq (a := C4_8) (b := C4_9) ?_
  refine at_ops (l := O4_8) ?_
  obtain ⟨r26, g27, hF⟩ := bind_some hF
  refine xo_dfun' (d11 _ g27) dsl_nil ?_
  refine xo (e_mv' (v := AV.bool r26) rfl) ?_
  refine bsplit (b := r26) (fun c28 => ?_) (fun c28 => ?_)
  · have hF := ite_t c28 hF
    refine xo_on rfl c28 ?_
    refine xo (e_loadN rfl o25 (LR.whole _ _) (c24_len _)) ?_
    refine xo_on rfl c28 ?_
    refine xo (e_loadN rfl o23 (LR.whole _ _) (c24_len _)) ?_
    refine xo_on rfl c28 ?_
    refine xo (e_eqA rfl rfl (c24_eq _ _)) ?_
    refine xo (e_pick_t (v := AV.bool (decide (r1.1 = r12.1))) rfl c28 rfl) ?_
    refine xo (e_mv' (v := AV.bool (decide (r1.1 = r12.1))) rfl) ?_
    refine bsplit (b := decide (r1.1 = r12.1)) (fun c29 => ?_) (fun c29 => ?_)
    · have hF := ite_t c29 hF
      refine xo_on rfl c29 ?_
      refine xo (e_mv' (v := AV.int .i64 r1.2.1) rfl) ?_
      refine xo_on rfl c29 ?_
      refine xo (e_mv' (v := AV.int .i64 r12.2.1) rfl) ?_
      refine xo_on rfl c29 ?_
      refine xo (e_bin (v := .bool ((r1.2.1 == r12.2.1))) rfl rfl rfl) ?_
      refine xo (e_pick_t (v := AV.bool (r1.2.1 == r12.2.1)) rfl c29 rfl) ?_
      refine xo (e_mv' (v := AV.bool (r1.2.1 == r12.2.1)) rfl) ?_
      refine bsplit (b := (r1.2.1 == r12.2.1)) (fun c30 => ?_) (fun c30 => ?_)
      · have hF := ite_t c30 hF
        refine xo_on rfl c30 ?_
        refine xo (e_mv' (v := AV.int .i64 r1.2.2.1) rfl) ?_
        refine xo_on rfl c30 ?_
        refine xo (e_mv' (v := AV.int .i64 r12.2.2.1) rfl) ?_
        refine xo_on rfl c30 ?_
        refine xo (e_bin (v := .bool ((r1.2.2.1 == r12.2.2.1))) rfl rfl rfl) ?_
        refine xo (e_pick_t (v := AV.bool (r1.2.2.1 == r12.2.2.1)) rfl c30 rfl) ?_
        refine xo (e_mv' (v := AV.bool (r1.2.2.1 == r12.2.2.1)) rfl) ?_
        refine bsplit (b := (r1.2.2.1 == r12.2.2.1)) (fun c31 => ?_) (fun c31 => ?_)
        · have hF := ite_t c31 hF
          refine xo_on rfl c31 ?_
          refine xo (e_mv' (v := AV.int .i64 r1.2.2.2) rfl) ?_
          refine xo_on rfl c31 ?_
          refine xo (e_mv' (v := AV.int .i64 r12.2.2.2) rfl) ?_
          refine xo_on rfl c31 ?_
          refine xo (e_bin (v := .bool ((r1.2.2.2 == r12.2.2.2))) rfl rfl rfl) ?_
          refine xo (e_pick_t (v := AV.bool (r1.2.2.2 == r12.2.2.2)) rfl c31 rfl) ?_
          refine xo (e_mv' (v := AV.bool (r1.2.2.2 == r12.2.2.2)) rfl) ?_
          refine ato_nil ?_
          refine atn_seq ?_
          refine at_ret ?_
          cases hF
          exact atr (rl_tmp rfl rl_nil) (isd (ds_eq rfl ds_b))
        · have hF := ite_f c31 hF
          refine xo_off rfl c31 ?_
          refine xo_off rfl c31 ?_
          refine xo_off rfl c31 ?_
          refine xo (e_pick_f (v := AV.bool false) rfl c31 rfl) ?_
          refine xo (e_mv' (v := AV.bool false) rfl) ?_
          refine ato_nil ?_
          refine atn_seq ?_
          refine at_ret ?_
          cases hF
          exact atr (rl_tmp rfl rl_nil) (isd (ds_eq rfl ds_b))
      · have hF := ite_f c30 hF
        refine xo_off rfl c30 ?_
        refine xo_off rfl c30 ?_
        refine xo_off rfl c30 ?_
        refine xo (e_pick_f (v := AV.bool false) rfl c30 rfl) ?_
        refine xo (e_mv' (v := AV.bool false) rfl) ?_
        refine xo_off rfl rfl ?_
        refine xo_off rfl rfl ?_
        refine xo_off rfl rfl ?_
        refine xo (e_pick_f (v := AV.bool false) rfl rfl rfl) ?_
        refine xo (e_mv' (v := AV.bool false) rfl) ?_
        refine ato_nil ?_
        refine atn_seq ?_
        refine at_ret ?_
        cases hF
        exact atr (rl_tmp rfl rl_nil) (isd (ds_eq rfl ds_b))
    · have hF := ite_f c29 hF
      refine xo_off rfl c29 ?_
      refine xo_off rfl c29 ?_
      refine xo_off rfl c29 ?_
      refine xo (e_pick_f (v := AV.bool false) rfl c29 rfl) ?_
      refine xo (e_mv' (v := AV.bool false) rfl) ?_
      refine xo_off rfl rfl ?_
      refine xo_off rfl rfl ?_
      refine xo_off rfl rfl ?_
      refine xo (e_pick_f (v := AV.bool false) rfl rfl rfl) ?_
      refine xo (e_mv' (v := AV.bool false) rfl) ?_
      refine xo_off rfl rfl ?_
      refine xo_off rfl rfl ?_
      refine xo_off rfl rfl ?_
      refine xo (e_pick_f (v := AV.bool false) rfl rfl rfl) ?_
      refine xo (e_mv' (v := AV.bool false) rfl) ?_
      refine ato_nil ?_
      refine atn_seq ?_
      refine at_ret ?_
      cases hF
      exact atr (rl_tmp rfl rl_nil) (isd (ds_eq rfl ds_b))
  · have hF := ite_f c28 hF
    refine xo_off rfl c28 ?_
    refine xo_off rfl c28 ?_
    refine xo_off rfl c28 ?_
    refine xo (e_pick_f (v := AV.bool false) rfl c28 rfl) ?_
    refine xo (e_mv' (v := AV.bool false) rfl) ?_
    refine xo_off rfl rfl ?_
    refine xo_off rfl rfl ?_
    refine xo_off rfl rfl ?_
    refine xo (e_pick_f (v := AV.bool false) rfl rfl rfl) ?_
    refine xo (e_mv' (v := AV.bool false) rfl) ?_
    refine xo_off rfl rfl ?_
    refine xo_off rfl rfl ?_
    refine xo_off rfl rfl ?_
    refine xo (e_pick_f (v := AV.bool false) rfl rfl rfl) ?_
    refine xo (e_mv' (v := AV.bool false) rfl) ?_
    refine xo_off rfl rfl ?_
    refine xo_off rfl rfl ?_
    refine xo_off rfl rfl ?_
    refine xo (e_pick_f (v := AV.bool false) rfl rfl rfl) ?_
    refine xo (e_mv' (v := AV.bool false) rfl) ?_
    refine ato_nil ?_
    refine atn_seq ?_
    refine at_ret ?_
    cases hF
    exact atr (rl_tmp rfl rl_nil) (isd (ds_eq rfl ds_b))
/-! ### 5: paddock/paddocklaw07.SetsBack -/
def O5_2 : List AOp := [⟨(.some 3), .none, (.plain (.box 4 (.t 0)))⟩, ⟨(.some 6), .none, (.plain (.mv (.c (.bool false))))⟩]
def C5_2 : ACode := .ops O5_2
def O5_5 : List AOp := [⟨(.some 21), .none, (.call 11 [])⟩, ⟨(.some 22), .none, (.plain (.un .not (.t 21)))⟩]
def C5_5 : ACode := .ops O5_5
def O5_8 : List AOp := [⟨(.some 6), .none, (.plain (.mv (.c (.bool false))))⟩]
def C5_8 : ACode := .ops O5_8
def C5_9 : ACode := .ret
def C5_7 : ACode := .seq C5_8 C5_9
def C5_10 : ACode := .skip
def C5_6 : ACode := .cond (.t 22) C5_7 C5_10
def C5_4 : ACode := .seq C5_5 C5_6
def O5_12 : List AOp := [⟨(.some 23), .none, (.plain (.loadN 4 (.t 3)))⟩, ⟨(.some 24), .none, (.call 24 [(.t 23)])⟩, ⟨(.some 7), .none, (.plain (.mv (.t 24)))⟩]
def C5_12 : ACode := .ops O5_12
def O5_14_1 : List AOp := ⟨(.some 33), .none, (.plain (.extract (.t 25) 3))⟩ :: ⟨(.some 8), .none, (.plain (.alloc [(.int .u64 0), (.int .u64 0), (.int .u64 0), (.int .u64 0)]))⟩ :: ⟨.none, .none, (.plain (.store 4 (.t 8) (.t 30)))⟩ :: ⟨(.some 9), .none, (.plain (.mv (.t 31)))⟩ :: ⟨(.some 10), .none, (.plain (.mv (.t 32)))⟩ :: ⟨(.some 11), .none, (.plain (.mv (.t 33)))⟩ :: []
def O5_14 : List AOp := ⟨(.some 26), .none, (.plain (.mv (.t 7)))⟩ :: ⟨(.some 27), .none, (.plain (.mv (.t 2)))⟩ :: ⟨(.some 28), .none, (.plain (.binS .add (.t 26) (.t 27)))⟩ :: ⟨(.some 29), .none, (.call 22 [(.t 28)])⟩ :: ⟨(.some 25), .none, (.plain (.mv (.t 29)))⟩ :: ⟨(.some 30), .none, (.plain (.extract (.t 25) 0))⟩ :: ⟨(.some 31), .none, (.plain (.extract (.t 25) 1))⟩ :: ⟨(.some 32), .none, (.plain (.extract (.t 25) 2))⟩ :: O5_14_1
def C5_14 : ACode := .ops O5_14
def O5_17_2 : List AOp := ⟨(.some 50), .none, (.plain (.pick (.t 47) (.c (.bool true)) (.t 49)))⟩ :: []
def O5_17_1 : List AOp := ⟨(.some 42), .none, (.plain (.pick (.t 37) (.c (.bool true)) (.t 41)))⟩ :: ⟨(.some 43), .none, (.plain (.mv (.t 42)))⟩ :: ⟨(.some 44), (.some (43, false)), (.plain (.mv (.t 10)))⟩ :: ⟨(.some 45), (.some (43, false)), (.plain (.binI .neq (.t 44) (.c (.int .i64 0))))⟩ :: ⟨(.some 46), .none, (.plain (.pick (.t 43) (.c (.bool true)) (.t 45)))⟩ :: ⟨(.some 47), .none, (.plain (.mv (.t 46)))⟩ :: ⟨(.some 48), (.some (47, false)), (.plain (.mv (.t 11)))⟩ :: ⟨(.some 49), (.some (47, false)), (.plain (.binI .neq (.t 48) (.c (.int .i64 0))))⟩ :: O5_17_2
def O5_17 : List AOp := ⟨(.some 34), .none, (.plain (.loadN 4 (.t 8)))⟩ :: ⟨(.some 35), .none, (.plain (.loadN 4 (.t 3)))⟩ :: ⟨(.some 36), .none, (.plain (.eqA true [.i, .i, .i, .i] (.t 34) (.t 35)))⟩ :: ⟨(.some 37), .none, (.plain (.mv (.t 36)))⟩ :: ⟨(.some 38), (.some (37, false)), (.plain (.mv (.t 9)))⟩ :: ⟨(.some 39), (.some (37, false)), (.plain (.mv (.t 7)))⟩ :: ⟨(.some 40), (.some (37, false)), (.plain (.lenS (.t 39)))⟩ :: ⟨(.some 41), (.some (37, false)), (.plain (.binI .neq (.t 38) (.t 40)))⟩ :: O5_17_1
def C5_17 : ACode := .ops O5_17
def O5_20 : List AOp := [⟨(.some 6), .none, (.plain (.mv (.c (.bool false))))⟩]
def C5_20 : ACode := .ops O5_20
def C5_21 : ACode := .ret
def C5_19 : ACode := .seq C5_20 C5_21
def C5_22 : ACode := .skip
def C5_18 : ACode := .cond (.t 50) C5_19 C5_22
def C5_16 : ACode := .seq C5_17 C5_18
def O5_24_1 : List AOp := ⟨.none, .none, (.plain (.store 4 (.t 12) (.t 54)))⟩ :: ⟨(.some 9), .none, (.plain (.mv (.t 55)))⟩ :: ⟨(.some 10), .none, (.plain (.mv (.t 56)))⟩ :: ⟨(.some 13), .none, (.plain (.mv (.t 57)))⟩ :: []
def O5_24 : List AOp := ⟨(.some 52), .none, (.plain (.mv (.t 1)))⟩ :: ⟨(.some 53), .none, (.call 22 [(.t 52)])⟩ :: ⟨(.some 51), .none, (.plain (.mv (.t 53)))⟩ :: ⟨(.some 54), .none, (.plain (.extract (.t 51) 0))⟩ :: ⟨(.some 55), .none, (.plain (.extract (.t 51) 1))⟩ :: ⟨(.some 56), .none, (.plain (.extract (.t 51) 2))⟩ :: ⟨(.some 57), .none, (.plain (.extract (.t 51) 3))⟩ :: ⟨(.some 12), .none, (.plain (.alloc [(.int .u64 0), (.int .u64 0), (.int .u64 0), (.int .u64 0)]))⟩ :: O5_24_1
def C5_24 : ACode := .ops O5_24
def O5_27 : List AOp := [⟨(.some 58), .none, (.plain (.mv (.t 10)))⟩, ⟨(.some 59), .none, (.plain (.binI .neq (.t 58) (.c (.int .i64 0))))⟩]
def C5_27 : ACode := .ops O5_27
def O5_30_1 : List AOp := ⟨(.some 68), (.some (67, true)), (.plain (.mv (.t 10)))⟩ :: ⟨(.some 69), (.some (67, true)), (.plain (.binI .eql (.t 68) (.c (.int .i64 70))))⟩ :: ⟨(.some 70), .none, (.plain (.pick (.t 67) (.t 69) (.c (.bool false))))⟩ :: ⟨(.some 6), .none, (.plain (.mv (.t 70)))⟩ :: []
def O5_30 : List AOp := ⟨(.some 60), .none, (.plain (.mv (.t 9)))⟩ :: ⟨(.some 61), .none, (.plain (.binI .eql (.t 60) (.c (.int .i64 0))))⟩ :: ⟨(.some 62), .none, (.plain (.mv (.t 61)))⟩ :: ⟨(.some 63), (.some (62, true)), (.plain (.loadN 4 (.t 12)))⟩ :: ⟨(.some 64), (.some (62, true)), (.plain (.build [(.int .u64 0), (.int .u64 0), (.int .u64 0), (.int .u64 0)] []))⟩ :: ⟨(.some 65), (.some (62, true)), (.plain (.eqA false [.i, .i, .i, .i] (.t 63) (.t 64)))⟩ :: ⟨(.some 66), .none, (.plain (.pick (.t 62) (.t 65) (.c (.bool false))))⟩ :: ⟨(.some 67), .none, (.plain (.mv (.t 66)))⟩ :: O5_30_1
def C5_30 : ACode := .ops O5_30
def C5_31 : ACode := .ret
def C5_29 : ACode := .seq C5_30 C5_31
def C5_32 : ACode := .skip
def C5_28 : ACode := .cond (.t 59) C5_29 C5_32
def C5_26 : ACode := .seq C5_27 C5_28
def O5_35_1 : List AOp := ⟨(.some 79), .none, (.plain (.mv (.t 78)))⟩ :: ⟨(.some 80), (.some (79, false)), (.plain (.mv (.t 1)))⟩ :: ⟨(.some 81), (.some (79, false)), (.plain (.mv (.t 9)))⟩ :: ⟨(.some 82), (.some (79, false)), (.plain (.binI .sub (.t 81) (.c (.int .i64 1))))⟩ :: ⟨(.some 83), (.some (79, false)), (.plain (.ixS (.t 80) (.t 82)))⟩ :: ⟨(.some 84), (.some (79, false)), (.plain (.binI .neq (.t 83) (.c (.int .u8 93))))⟩ :: ⟨(.some 85), .none, (.plain (.pick (.t 79) (.c (.bool true)) (.t 84)))⟩ :: []
def O5_35 : List AOp := ⟨(.some 71), .none, (.plain (.mv (.t 9)))⟩ :: ⟨(.some 72), .none, (.plain (.binI .lss (.t 71) (.c (.int .i64 2))))⟩ :: ⟨(.some 73), .none, (.plain (.mv (.t 72)))⟩ :: ⟨(.some 74), (.some (73, false)), (.plain (.mv (.t 9)))⟩ :: ⟨(.some 75), (.some (73, false)), (.plain (.mv (.t 1)))⟩ :: ⟨(.some 76), (.some (73, false)), (.plain (.lenS (.t 75)))⟩ :: ⟨(.some 77), (.some (73, false)), (.plain (.binI .gtr (.t 74) (.t 76)))⟩ :: ⟨(.some 78), .none, (.plain (.pick (.t 73) (.c (.bool true)) (.t 77)))⟩ :: O5_35_1
def C5_35 : ACode := .ops O5_35
def O5_38 : List AOp := [⟨(.some 6), .none, (.plain (.mv (.c (.bool false))))⟩]
def C5_38 : ACode := .ops O5_38
def C5_39 : ACode := .ret
def C5_37 : ACode := .seq C5_38 C5_39
def C5_40 : ACode := .skip
def C5_36 : ACode := .cond (.t 85) C5_37 C5_40
def C5_34 : ACode := .seq C5_35 C5_36
def O5_42_1 : List AOp := ⟨(.some 94), .none, (.plain (.extract (.t 86) 1))⟩ :: ⟨(.some 95), .none, (.plain (.extract (.t 86) 2))⟩ :: ⟨(.some 96), .none, (.plain (.extract (.t 86) 3))⟩ :: ⟨(.some 14), .none, (.plain (.alloc [(.int .u64 0), (.int .u64 0), (.int .u64 0), (.int .u64 0)]))⟩ :: ⟨.none, .none, (.plain (.store 4 (.t 14) (.t 93)))⟩ :: ⟨(.some 15), .none, (.plain (.mv (.t 94)))⟩ :: ⟨(.some 10), .none, (.plain (.mv (.t 95)))⟩ :: ⟨(.some 16), .none, (.plain (.mv (.t 96)))⟩ :: []
def O5_42 : List AOp := ⟨(.some 87), .none, (.plain (.mv (.t 1)))⟩ :: ⟨(.some 88), .none, (.plain (.mv (.t 9)))⟩ :: ⟨(.some 89), .none, (.plain (.slS (.t 87) .none (.some (.t 88))))⟩ :: ⟨(.some 90), .none, (.plain (.mv (.t 2)))⟩ :: ⟨(.some 91), .none, (.plain (.binS .add (.t 89) (.t 90)))⟩ :: ⟨(.some 92), .none, (.call 22 [(.t 91)])⟩ :: ⟨(.some 86), .none, (.plain (.mv (.t 92)))⟩ :: ⟨(.some 93), .none, (.plain (.extract (.t 86) 0))⟩ :: O5_42_1
def C5_42 : ACode := .ops O5_42
def O5_44_1 : List AOp := ⟨(.some 17), .none, (.plain (.alloc [(.int .u64 0), (.int .u64 0), (.int .u64 0), (.int .u64 0)]))⟩ :: ⟨.none, .none, (.plain (.store 4 (.t 17) (.t 101)))⟩ :: ⟨(.some 18), .none, (.plain (.mv (.t 102)))⟩ :: ⟨(.some 19), .none, (.plain (.mv (.t 103)))⟩ :: ⟨(.some 20), .none, (.plain (.mv (.t 104)))⟩ :: []
def O5_44 : List AOp := ⟨(.some 98), .none, (.plain (.loadN 4 (.t 12)))⟩ :: ⟨(.some 99), .none, (.call 24 [(.t 98)])⟩ :: ⟨(.some 100), .none, (.call 22 [(.t 99)])⟩ :: ⟨(.some 97), .none, (.plain (.mv (.t 100)))⟩ :: ⟨(.some 101), .none, (.plain (.extract (.t 97) 0))⟩ :: ⟨(.some 102), .none, (.plain (.extract (.t 97) 1))⟩ :: ⟨(.some 103), .none, (.plain (.extract (.t 97) 2))⟩ :: ⟨(.some 104), .none, (.plain (.extract (.t 97) 3))⟩ :: O5_44_1
def C5_44 : ACode := .ops O5_44
def O5_46_2 : List AOp := ⟨(.some 121), .none, (.plain (.mv (.t 120)))⟩ :: ⟨(.some 122), (.some (121, true)), (.plain (.loadN 4 (.t 17)))⟩ :: ⟨(.some 123), (.some (121, true)), (.plain (.loadN 4 (.t 12)))⟩ :: ⟨(.some 124), (.some (121, true)), (.plain (.eqA false [.i, .i, .i, .i] (.t 122) (.t 123)))⟩ :: ⟨(.some 125), .none, (.plain (.pick (.t 121) (.t 124) (.c (.bool false))))⟩ :: ⟨(.some 6), .none, (.plain (.mv (.t 125)))⟩ :: []
def O5_46_1 : List AOp := ⟨(.some 113), (.some (112, true)), (.plain (.loadN 4 (.t 14)))⟩ :: ⟨(.some 114), (.some (112, true)), (.plain (.loadN 4 (.t 12)))⟩ :: ⟨(.some 115), (.some (112, true)), (.plain (.eqA false [.i, .i, .i, .i] (.t 113) (.t 114)))⟩ :: ⟨(.some 116), .none, (.plain (.pick (.t 112) (.t 115) (.c (.bool false))))⟩ :: ⟨(.some 117), .none, (.plain (.mv (.t 116)))⟩ :: ⟨(.some 118), (.some (117, true)), (.plain (.mv (.t 19)))⟩ :: ⟨(.some 119), (.some (117, true)), (.plain (.binI .eql (.t 118) (.c (.int .i64 0))))⟩ :: ⟨(.some 120), .none, (.plain (.pick (.t 117) (.t 119) (.c (.bool false))))⟩ :: O5_46_2
def O5_46 : List AOp := ⟨(.some 105), .none, (.plain (.mv (.t 10)))⟩ :: ⟨(.some 106), .none, (.plain (.binI .eql (.t 105) (.c (.int .i64 0))))⟩ :: ⟨(.some 107), .none, (.plain (.mv (.t 106)))⟩ :: ⟨(.some 108), (.some (107, true)), (.plain (.mv (.t 15)))⟩ :: ⟨(.some 109), (.some (107, true)), (.plain (.mv (.t 9)))⟩ :: ⟨(.some 110), (.some (107, true)), (.plain (.binI .eql (.t 108) (.t 109)))⟩ :: ⟨(.some 111), .none, (.plain (.pick (.t 107) (.t 110) (.c (.bool false))))⟩ :: ⟨(.some 112), .none, (.plain (.mv (.t 111)))⟩ :: O5_46_1
def C5_46 : ACode := .ops O5_46
def C5_47 : ACode := .ret
def C5_45 : ACode := .seq C5_46 C5_47
def C5_43 : ACode := .seq C5_44 C5_45
def C5_41 : ACode := .seq C5_42 C5_43
def C5_33 : ACode := .seq C5_34 C5_41
def C5_25 : ACode := .seq C5_26 C5_33
def C5_23 : ACode := .seq C5_24 C5_25
def C5_15 : ACode := .seq C5_16 C5_23
def C5_13 : ACode := .seq C5_14 C5_15
def C5_11 : ACode := .seq C5_12 C5_13
def C5_3 : ACode := .seq C5_4 C5_11
def C5_1 : ACode := .seq C5_2 C5_3
def R5 : List RA := [(.tmp 6)]
theorem k5 : compF Try.prog (muL []) 5 = some ⟨126, C5_1, R5⟩ := by kernel_rfl
noncomputable def X5 (r : Bool) : Cx := ⟨Try.prog, noG, 126, muL [], R5, isD (fun x => x = AV.bool r)⟩
noncomputable def F5 (s : Arr 4 Int) (t : Str) (more : Str) : Option Bool :=
  (F11 >>= fun r7 =>
    (if (!r7) = true then
      (some false)
    else
      (F24 s >>= fun r10 =>
        (if (r10).length + (more).length ≤ 9223372036854775807 then
          (F22 (r10 ++ more) >>= fun r13 =>
            (if (!decide (r13.1 = s)) = true then
              (some false)
            else
              (if (r13.2.1 != ((r10).length : Int)) = true then
                (some false)
              else
                (if (r13.2.2.1 != 0) = true then
                  (some false)
                else
                  (if (r13.2.2.2 != 0) = true then
                    (some false)
                  else
                    (F22 t >>= fun r31 =>
                      (if (r31.2.2.1 != 0) = true then
                        (if (r31.2.1 == 0) = true then
                          (if (decide (r31.1 = (Arr.rep 4 0))) = true then
                            (some (r31.2.2.1 == 70))
                          else
                            (some false))
                        else
                          (some false))
                      else
                        (if (decide (r31.2.1 < 2)) = true then
                          (some false)
                        else
                          (if (decide (r31.2.1 > ((t).length : Int))) = true then
                            (some false)
                          else
                            (ix t (IntKind.wrap .i64 (r31.2.1 - 1)) >>= fun b47 =>
                              (if ((b47.toNat : Int) != 93) = true then
                                (some false)
                              else
                                (strcut t 0 r31.2.1 >>= fun w50 =>
                                  (if (w50).length + (more).length ≤ 9223372036854775807 then
                                    (F22 (w50 ++ more) >>= fun r53 =>
                                      (F24 r31.1 >>= fun r67 =>
                                        (F22 r67 >>= fun r69 =>
                                          (if (r53.2.2.1 == 0) = true then
                                            (if (r53.2.1 == r31.2.1) = true then
                                              (if (decide (r53.1 = r31.1)) = true then
                                                (if (r69.2.2.1 == 0) = true then
                                                  (some (decide (r69.1 = r31.1)))
                                                else
                                                  (some false))
                                              else
                                                (some false))
                                            else
                                              (some false))
                                          else
                                            (some false)))))
                                  else none)))))))))))))
        else none))))
theorem d5 (s : Arr 4 Int) (t : Str) (more : Str) (r : Bool) (hF : F5 s t more = some r) : DFun Try.prog noG 5 [AV.agg (c24 s), AV.str t, AV.str more] (AV.bool r) := by
  unfold F5 at hF
  refine dfun_at k5 (Nat.le_of_ble_eq_true rfl) ?_
  show At (X5 r) _ _ _ _
  refine at_seq (a := C5_2) (b := C5_3) ?_
  refine at_ops (l := O5_2) ?_
  refine xo_box (cs := c24 s) rfl rfl (c24_len _) fun s2 i3 o4 k5 q6 => ?_
  refine xo (e_mv' (v := AV.bool false) rfl) ?_
  refine ato_nil ?_
  refine atn_seq ?_
  refine at_seq (a := C5_4) (b := C5_11) ?_
  refine at_seq (a := C5_5) (b := C5_6) ?_
  refine at_ops (l := O5_5) ?_
  obtain ⟨r7, g8, hF⟩ := bind_some hF
  refine xo_dfun' (d11 _ g8) dsl_nil ?_
  refine xo (e_not rfl) ?_
  refine ato_nil ?_
  refine atn_seq ?_
  refine at_cond (x := C5_7) (y := C5_10) rfl (fun c9 => ?_) (fun c9 => ?_)
  · have hF := ite_t c9 hF
    refine at_seq (a := C5_8) (b := C5_9) ?_
    refine at_ops (l := O5_8) ?_
    refine xo (e_mv' (v := AV.bool false) rfl) ?_
    refine ato_nil ?_
    refine atn_seq ?_
    refine at_ret ?_
    cases hF
    exact atr (rl_tmp rfl rl_nil) (isd (ds_eq rfl ds_b))
  · have hF := ite_f c9 hF
    refine at_skip ?_
    refine atn_seq ?_
    refine at_seq (a := C5_12) (b := C5_13) ?_
    refine at_ops (l := O5_12) ?_
    refine xo (e_loadN rfl o4 (LR.whole _ _) (c24_len _)) ?_
    obtain ⟨r10, g11, hF⟩ := bind_some hF
    refine xo_dfun' (d24 s _ g11) (dsl_cons (ds_eq rfl (ds_agg (c24_ds _))) dsl_nil) ?_
    refine xo (e_mv' (v := AV.str r10) rfl) ?_
    refine ato_nil ?_
    refine atn_seq ?_
    refine at_seq (a := C5_14) (b := C5_15) ?_
    refine at_ops (l := O5_14) ?_
    refine xo (e_mv' (v := AV.str r10) rfl) ?_
    refine xo (e_mv' (v := AV.str more) rfl) ?_
    obtain ⟨g12, hF⟩ := grd_some hF
    refine xo (e_str rfl rfl (op_cat _ _ g12)) ?_
    obtain ⟨r13, g14, hF⟩ := bind_some hF
    refine xo_dfun' (d22 (r10 ++ more) _ g14) (dsl_cons (ds_eq rfl ds_s) dsl_nil) ?_
    refine xo (e_mv' (v := AV.tup [AV.agg (c24 r13.1), AV.int .i64 r13.2.1, AV.int .i64 r13.2.2.1, AV.int .i64 r13.2.2.2]) rfl) ?_
    refine xo (e_extract (v := AV.agg (c24 r13.1)) rfl rfl) ?_
    refine xo (e_extract (v := AV.int .i64 r13.2.1) rfl rfl) ?_
    refine xo (e_extract (v := AV.int .i64 r13.2.2.1) rfl rfl) ?_
    refine xo (e_extract (v := AV.int .i64 r13.2.2.2) rfl rfl) ?_
    refine xo_alloc (cs := c24 (Arr.rep 4 0)) rfl fun s16 i17 o18 k19 q20 => ?_
    have n21 : i3 ≠ i17 := fun e => ne_new o4 (e.trans q20)
    have o22 := keep0 k19 o4
    refine xo_store rfl o18 (LR.whole _ _) (c24_len _) rfl rfl (c24_len _) (c24_one _) fun s23 o24 k25 => ?_
    have o26 := k25 _ _ o22 n21
    refine xo (e_mv' (v := AV.int .i64 r13.2.1) rfl) ?_
    refine xo (e_mv' (v := AV.int .i64 r13.2.2.1) rfl) ?_
    refine xo (e_mv' (v := AV.int .i64 r13.2.2.2) rfl) ?_
    refine ato_nil ?_
    refine atn_seq ?_
    refine at_seq (a := C5_16) (b := C5_23) ?_
    refine at_seq (a := C5_17) (b := C5_18) ?_
    refine at_ops (l := O5_17) ?_
    refine xo (e_loadN rfl o24 (LR.whole _ _) (c24_len _)) ?_
    refine xo (e_loadN rfl o26 (LR.whole _ _) (c24_len _)) ?_
    refine xo (e_neA rfl rfl (c24_eq _ _)) ?_
    refine xo (e_mv' (v := AV.bool (!decide (r13.1 = s))) rfl) ?_
    refine bsplit (b := (!decide (r13.1 = s))) (fun c27 => ?_) (fun c27 => ?_)
    · have hF := ite_t c27 hF
      refine xo_off rfl c27 ?_
      refine xo_off rfl c27 ?_
      refine xo_off rfl c27 ?_
      refine xo_off rfl c27 ?_
      refine xo (e_pick_t (v := AV.bool true) rfl c27 rfl) ?_
      refine xo (e_mv' (v := AV.bool true) rfl) ?_
      refine xo_off rfl rfl ?_
      refine xo_off rfl rfl ?_
      refine xo (e_pick_t (v := AV.bool true) rfl rfl rfl) ?_
      refine xo (e_mv' (v := AV.bool true) rfl) ?_
      refine xo_off rfl rfl ?_
      refine xo_off rfl rfl ?_
      refine xo (e_pick_t (v := AV.bool true) rfl rfl rfl) ?_
      refine ato_nil ?_
      refine atn_seq ?_
      refine at_cond_t (x := C5_19) (y := C5_22) rfl rfl ?_
      refine at_seq (a := C5_20) (b := C5_21) ?_
      refine at_ops (l := O5_20) ?_
      refine xo (e_mv' (v := AV.bool false) rfl) ?_
      refine ato_nil ?_
      refine atn_seq ?_
      refine at_ret ?_
      cases hF
      exact atr (rl_tmp rfl rl_nil) (isd (ds_eq rfl ds_b))
    · have hF := ite_f c27 hF
      refine xo_on rfl c27 ?_
      refine xo (e_mv' (v := AV.int .i64 r13.2.1) rfl) ?_
      refine xo_on rfl c27 ?_
      refine xo (e_mv' (v := AV.str r10) rfl) ?_
      refine xo_on rfl c27 ?_
      refine xo (e_lenS rfl) ?_
      refine xo_on rfl c27 ?_
      refine xo (e_bin (v := .bool ((r13.2.1 != ((r10).length : Int)))) rfl rfl rfl) ?_
      refine xo (e_pick_f (v := AV.bool (r13.2.1 != ((r10).length : Int))) rfl c27 rfl) ?_
      refine xo (e_mv' (v := AV.bool (r13.2.1 != ((r10).length : Int))) rfl) ?_
      refine bsplit (b := (r13.2.1 != ((r10).length : Int))) (fun c28 => ?_) (fun c28 => ?_)
      · have hF := ite_t c28 hF
        refine xo_off rfl c28 ?_
        refine xo_off rfl c28 ?_
        refine xo (e_pick_t (v := AV.bool true) rfl c28 rfl) ?_
        refine xo (e_mv' (v := AV.bool true) rfl) ?_
        refine xo_off rfl rfl ?_
        refine xo_off rfl rfl ?_
        refine xo (e_pick_t (v := AV.bool true) rfl rfl rfl) ?_
        refine ato_nil ?_
        refine atn_seq ?_
        refine at_cond_t (x := C5_19) (y := C5_22) rfl rfl ?_
        refine at_seq (a := C5_20) (b := C5_21) ?_
        refine at_ops (l := O5_20) ?_
        refine xo (e_mv' (v := AV.bool false) rfl) ?_
        refine ato_nil ?_
        refine atn_seq ?_
        refine at_ret ?_
        cases hF
        exact atr (rl_tmp rfl rl_nil) (isd (ds_eq rfl ds_b))
      · have hF := ite_f c28 hF
        refine xo_on rfl c28 ?_
        refine xo (e_mv' (v := AV.int .i64 r13.2.2.1) rfl) ?_
        refine xo_on rfl c28 ?_
        refine xo (e_bin (v := .bool ((r13.2.2.1 != 0))) rfl rfl rfl) ?_
        refine xo (e_pick_f (v := AV.bool (r13.2.2.1 != 0)) rfl c28 rfl) ?_
        refine xo (e_mv' (v := AV.bool (r13.2.2.1 != 0)) rfl) ?_
        refine bsplit (b := (r13.2.2.1 != 0)) (fun c29 => ?_) (fun c29 => ?_)
        · have hF := ite_t c29 hF
          refine xo_off rfl c29 ?_
          refine xo_off rfl c29 ?_
          refine xo (e_pick_t (v := AV.bool true) rfl c29 rfl) ?_
          refine ato_nil ?_
          refine atn_seq ?_
          refine at_cond_t (x := C5_19) (y := C5_22) rfl rfl ?_
          refine at_seq (a := C5_20) (b := C5_21) ?_
          refine at_ops (l := O5_20) ?_
          refine xo (e_mv' (v := AV.bool false) rfl) ?_
          refine ato_nil ?_
          refine atn_seq ?_
          refine at_ret ?_
          cases hF
          exact atr (rl_tmp rfl rl_nil) (isd (ds_eq rfl ds_b))
        · have hF := ite_f c29 hF
          refine xo_on rfl c29 ?_
          refine xo (e_mv' (v := AV.int .i64 r13.2.2.2) rfl) ?_
          refine xo_on rfl c29 ?_
          refine xo (e_bin (v := .bool ((r13.2.2.2 != 0))) rfl rfl rfl) ?_
          refine xo (e_pick_f (v := AV.bool (r13.2.2.2 != 0)) rfl c29 rfl) ?_
          refine ato_nil ?_
          refine atn_seq ?_
          refine at_cond (x := C5_19) (y := C5_22) rfl (fun c30 => ?_) (fun c30 => ?_)
          · have hF := ite_t c30 hF
            refine at_seq (a := C5_20) (b := C5_21) ?_
            refine at_ops (l := O5_20) ?_
            refine xo (e_mv' (v := AV.bool false) rfl) ?_
            refine ato_nil ?_
            refine atn_seq ?_
            refine at_ret ?_
            cases hF
            exact atr (rl_tmp rfl rl_nil) (isd (ds_eq rfl ds_b))
          · have hF := ite_f c30 hF
            refine at_skip ?_
            refine atn_seq ?_
            refine at_seq (a := C5_24) (b := C5_25) ?_
            refine at_ops (l := O5_24) ?_
            refine xo (e_mv' (v := AV.str t) rfl) ?_
            obtain ⟨r31, g32, hF⟩ := bind_some hF
            refine xo_dfun' (d22 t _ g32) (dsl_cons (ds_eq rfl ds_s) dsl_nil) ?_
            refine xo (e_mv' (v := AV.tup [AV.agg (c24 r31.1), AV.int .i64 r31.2.1, AV.int .i64 r31.2.2.1, AV.int .i64 r31.2.2.2]) rfl) ?_
            refine xo (e_extract (v := AV.agg (c24 r31.1)) rfl rfl) ?_
            refine xo (e_extract (v := AV.int .i64 r31.2.1) rfl rfl) ?_
            refine xo (e_extract (v := AV.int .i64 r31.2.2.1) rfl rfl) ?_
            refine xo (e_extract (v := AV.int .i64 r31.2.2.2) rfl rfl) ?_
            refine xo_alloc (cs := c24 (Arr.rep 4 0)) rfl fun s34 i35 o36 k37 q38 => ?_
            refine xo_store rfl o36 (LR.whole _ _) (c24_len _) rfl rfl (c24_len _) (c24_one _) fun s39 o40 k41 => ?_
            refine xo (e_mv' (v := AV.int .i64 r31.2.1) rfl) ?_
            refine xo (e_mv' (v := AV.int .i64 r31.2.2.1) rfl) ?_
            refine xo (e_mv' (v := AV.int .i64 r31.2.2.2) rfl) ?_
            refine ato_nil ?_
            refine atn_seq ?_
            refine at_seq (a := C5_26) (b := C5_33) ?_
            refine at_seq (a := C5_27) (b := C5_28) ?_
            refine at_ops (l := O5_27) ?_
            refine xo (e_mv' (v := AV.int .i64 r31.2.2.1) rfl) ?_
            refine xo (e_bin (v := .bool ((r31.2.2.1 != 0))) rfl rfl rfl) ?_
            refine ato_nil ?_
            refine atn_seq ?_
            refine at_cond (x := C5_29) (y := C5_32) rfl (fun c42 => ?_) (fun c42 => ?_)
            · have hF := ite_t c42 hF
              refine at_seq (a := C5_30) (b := C5_31) ?_
              refine at_ops (l := O5_30) ?_
              refine xo (e_mv' (v := AV.int .i64 r31.2.1) rfl) ?_
              refine xo (e_bin (v := .bool ((r31.2.1 == 0))) rfl rfl rfl) ?_
              refine xo (e_mv' (v := AV.bool (r31.2.1 == 0)) rfl) ?_
              refine bsplit (b := (r31.2.1 == 0)) (fun c43 => ?_) (fun c43 => ?_)
              · have hF := ite_t c43 hF
                refine xo_on rfl c43 ?_
                refine xo (e_loadN rfl o40 (LR.whole _ _) (c24_len _)) ?_
                refine xo_on rfl c43 ?_
                refine xo (e_build (z := [(.int .u64 0), (.int .u64 0), (.int .u64 0), (.int .u64 0)]) (cs := c24 (Arr.rep 4 0)) pk_nil (show fillA (c24 (Arr.rep 4 0)) _ = _ from (fl_nil _))) ?_
                refine xo_on rfl c43 ?_
                refine xo (e_eqA rfl rfl (c24_eq _ _)) ?_
                refine xo (e_pick_t (v := AV.bool (decide (r31.1 = (Arr.rep 4 0)))) rfl c43 rfl) ?_
                refine xo (e_mv' (v := AV.bool (decide (r31.1 = (Arr.rep 4 0)))) rfl) ?_
                refine bsplit (b := decide (r31.1 = (Arr.rep 4 0))) (fun c44 => ?_) (fun c44 => ?_)
                · have hF := ite_t c44 hF
                  refine xo_on rfl c44 ?_
                  refine xo (e_mv' (v := AV.int .i64 r31.2.2.1) rfl) ?_
                  refine xo_on rfl c44 ?_
                  refine xo (e_bin (v := .bool ((r31.2.2.1 == 70))) rfl rfl rfl) ?_
                  refine xo (e_pick_t (v := AV.bool (r31.2.2.1 == 70)) rfl c44 rfl) ?_
                  refine xo (e_mv' (v := AV.bool (r31.2.2.1 == 70)) rfl) ?_
                  refine ato_nil ?_
                  refine atn_seq ?_
                  refine at_ret ?_
                  cases hF
                  exact atr (rl_tmp rfl rl_nil) (isd (ds_eq rfl ds_b))
                · have hF := ite_f c44 hF
                  refine xo_off rfl c44 ?_
                  refine xo_off rfl c44 ?_
                  refine xo (e_pick_f (v := AV.bool false) rfl c44 rfl) ?_
                  refine xo (e_mv' (v := AV.bool false) rfl) ?_
                  refine ato_nil ?_
                  refine atn_seq ?_
                  refine at_ret ?_
                  cases hF
                  exact atr (rl_tmp rfl rl_nil) (isd (ds_eq rfl ds_b))
              · have hF := ite_f c43 hF
                refine xo_off rfl c43 ?_
                refine xo_off rfl c43 ?_
                refine xo_off rfl c43 ?_
                refine xo (e_pick_f (v := AV.bool false) rfl c43 rfl) ?_
                refine xo (e_mv' (v := AV.bool false) rfl) ?_
                refine xo_off rfl rfl ?_
                refine xo_off rfl rfl ?_
                refine xo (e_pick_f (v := AV.bool false) rfl rfl rfl) ?_
                refine xo (e_mv' (v := AV.bool false) rfl) ?_
                refine ato_nil ?_
                refine atn_seq ?_
                refine at_ret ?_
                cases hF
                exact atr (rl_tmp rfl rl_nil) (isd (ds_eq rfl ds_b))
            · have hF := ite_f c42 hF
              refine at_skip ?_
              refine atn_seq ?_
              refine at_seq (a := C5_34) (b := C5_41) ?_
              refine at_seq (a := C5_35) (b := C5_36) ?_
              refine at_ops (l := O5_35) ?_
              refine xo (e_mv' (v := AV.int .i64 r31.2.1) rfl) ?_
              refine xo (e_bin (v := .bool (decide (r31.2.1 < 2))) rfl rfl rfl) ?_
              refine xo (e_mv' (v := AV.bool (decide (r31.2.1 < 2))) rfl) ?_
              refine bsplit (b := decide (r31.2.1 < 2)) (fun c45 => ?_) (fun c45 => ?_)
              · have hF := ite_t c45 hF
                refine xo_off rfl c45 ?_
                refine xo_off rfl c45 ?_
                refine xo_off rfl c45 ?_
                refine xo_off rfl c45 ?_
                refine xo (e_pick_t (v := AV.bool true) rfl c45 rfl) ?_
                refine xo (e_mv' (v := AV.bool true) rfl) ?_
                refine xo_off rfl rfl ?_
                refine xo_off rfl rfl ?_
                refine xo_off rfl rfl ?_
                refine xo_off rfl rfl ?_
                refine xo_off rfl rfl ?_
                refine xo (e_pick_t (v := AV.bool true) rfl rfl rfl) ?_
                refine ato_nil ?_
                refine atn_seq ?_
                refine at_cond_t (x := C5_37) (y := C5_40) rfl rfl ?_
                refine at_seq (a := C5_38) (b := C5_39) ?_
                refine at_ops (l := O5_38) ?_
                refine xo (e_mv' (v := AV.bool false) rfl) ?_
                refine ato_nil ?_
                refine atn_seq ?_
                refine at_ret ?_
                cases hF
                exact atr (rl_tmp rfl rl_nil) (isd (ds_eq rfl ds_b))
              · have hF := ite_f c45 hF
                refine xo_on rfl c45 ?_
                refine xo (e_mv' (v := AV.int .i64 r31.2.1) rfl) ?_
                refine xo_on rfl c45 ?_
                refine xo (e_mv' (v := AV.str t) rfl) ?_
                refine xo_on rfl c45 ?_
                refine xo (e_lenS rfl) ?_
                refine xo_on rfl c45 ?_
                refine xo (e_bin (v := .bool (decide (r31.2.1 > ((t).length : Int)))) rfl rfl rfl) ?_
                refine xo (e_pick_f (v := AV.bool (decide (r31.2.1 > ((t).length : Int)))) rfl c45 rfl) ?_
                refine xo (e_mv' (v := AV.bool (decide (r31.2.1 > ((t).length : Int)))) rfl) ?_
                refine bsplit (b := decide (r31.2.1 > ((t).length : Int))) (fun c46 => ?_) (fun c46 => ?_)
                · have hF := ite_t c46 hF
                  refine xo_off rfl c46 ?_
                  refine xo_off rfl c46 ?_
                  refine xo_off rfl c46 ?_
                  refine xo_off rfl c46 ?_
                  refine xo_off rfl c46 ?_
                  refine xo (e_pick_t (v := AV.bool true) rfl c46 rfl) ?_
                  refine ato_nil ?_
                  refine atn_seq ?_
                  refine at_cond_t (x := C5_37) (y := C5_40) rfl rfl ?_
                  refine at_seq (a := C5_38) (b := C5_39) ?_
                  refine at_ops (l := O5_38) ?_
                  refine xo (e_mv' (v := AV.bool false) rfl) ?_
                  refine ato_nil ?_
                  refine atn_seq ?_
                  refine at_ret ?_
                  cases hF
                  exact atr (rl_tmp rfl rl_nil) (isd (ds_eq rfl ds_b))
                · have hF := ite_f c46 hF
                  refine xo_on rfl c46 ?_
                  refine xo (e_mv' (v := AV.str t) rfl) ?_
                  refine xo_on rfl c46 ?_
                  refine xo (e_mv' (v := AV.int .i64 r31.2.1) rfl) ?_
                  refine xo_on rfl c46 ?_
                  refine xo (e_bin (v := .int .i64 (IntKind.wrap .i64 (r31.2.1 - 1))) rfl rfl rfl) ?_
                  obtain ⟨b47, g48, hF⟩ := bind_some hF
                  refine xo_on rfl c46 ?_
                  refine xo (e_ixS rfl rfl g48) ?_
                  refine xo_on rfl c46 ?_
                  refine xo (e_bin (v := .bool (((b47.toNat : Int) != 93))) rfl rfl rfl) ?_
                  refine xo (e_pick_f (v := AV.bool ((b47.toNat : Int) != 93)) rfl c46 rfl) ?_
                  refine ato_nil ?_
                  refine atn_seq ?_
                  refine at_cond (x := C5_37) (y := C5_40) rfl (fun c49 => ?_) (fun c49 => ?_)
                  · have hF := ite_t c49 hF
                    refine at_seq (a := C5_38) (b := C5_39) ?_
                    refine at_ops (l := O5_38) ?_
                    refine xo (e_mv' (v := AV.bool false) rfl) ?_
                    refine ato_nil ?_
                    refine atn_seq ?_
                    refine at_ret ?_
                    cases hF
                    exact atr (rl_tmp rfl rl_nil) (isd (ds_eq rfl ds_b))
                  · have hF := ite_f c49 hF
                    refine at_skip ?_
                    refine atn_seq ?_
                    refine at_seq (a := C5_42) (b := C5_43) ?_
                    refine at_ops (l := O5_42) ?_
                    refine xo (e_mv' (v := AV.str t) rfl) ?_
                    refine xo (e_mv' (v := AV.int .i64 r31.2.1) rfl) ?_
                    obtain ⟨w50, g51, hF⟩ := bind_some hF
                    refine xo (e_slSh rfl rfl g51) ?_
                    refine xo (e_mv' (v := AV.str more) rfl) ?_
                    obtain ⟨g52, hF⟩ := grd_some hF
                    refine xo (e_str rfl rfl (op_cat _ _ g52)) ?_
                    obtain ⟨r53, g54, hF⟩ := bind_some hF
                    refine xo_dfun' (d22 (w50 ++ more) _ g54) (dsl_cons (ds_eq rfl ds_s) dsl_nil) ?_
                    refine xo (e_mv' (v := AV.tup [AV.agg (c24 r53.1), AV.int .i64 r53.2.1, AV.int .i64 r53.2.2.1, AV.int .i64 r53.2.2.2]) rfl) ?_
                    refine xo (e_extract (v := AV.agg (c24 r53.1)) rfl rfl) ?_
                    refine xo (e_extract (v := AV.int .i64 r53.2.1) rfl rfl) ?_
                    refine xo (e_extract (v := AV.int .i64 r53.2.2.1) rfl rfl) ?_
                    refine xo (e_extract (v := AV.int .i64 r53.2.2.2) rfl rfl) ?_
                    refine xo_alloc (cs := c24 (Arr.rep 4 0)) rfl fun s56 i57 o58 k59 q60 => ?_
                    have n61 : i35 ≠ i57 := fun e => ne_new o40 (e.trans q60)
                    have o62 := keep0 k59 o40
                    refine xo_store rfl o58 (LR.whole _ _) (c24_len _) rfl rfl (c24_len _) (c24_one _) fun s63 o64 k65 => ?_
                    have o66 := k65 _ _ o62 n61
                    refine xo (e_mv' (v := AV.int .i64 r53.2.1) rfl) ?_
                    refine xo (e_mv' (v := AV.int .i64 r53.2.2.1) rfl) ?_
                    refine xo (e_mv' (v := AV.int .i64 r53.2.2.2) rfl) ?_
                    refine ato_nil ?_
                    refine atn_seq ?_
                    refine at_seq (a := C5_44) (b := C5_45) ?_
                    refine at_ops (l := O5_44) ?_
                    refine xo (e_loadN rfl o66 (LR.whole _ _) (c24_len _)) ?_
                    obtain ⟨r67, g68, hF⟩ := bind_some hF
                    refine xo_dfun' (d24 r31.1 _ g68) (dsl_cons (ds_eq rfl (ds_agg (c24_ds _))) dsl_nil) ?_
                    obtain ⟨r69, g70, hF⟩ := bind_some hF
                    refine xo_dfun' (d22 r67 _ g70) (dsl_cons (ds_eq rfl ds_s) dsl_nil) ?_
                    refine xo (e_mv' (v := AV.tup [AV.agg (c24 r69.1), AV.int .i64 r69.2.1, AV.int .i64 r69.2.2.1, AV.int .i64 r69.2.2.2]) rfl) ?_
                    refine xo (e_extract (v := AV.agg (c24 r69.1)) rfl rfl) ?_
                    refine xo (e_extract (v := AV.int .i64 r69.2.1) rfl rfl) ?_
                    refine xo (e_extract (v := AV.int .i64 r69.2.2.1) rfl rfl) ?_
                    refine xo (e_extract (v := AV.int .i64 r69.2.2.2) rfl rfl) ?_
                    refine xo_alloc (cs := c24 (Arr.rep 4 0)) rfl fun s72 i73 o74 k75 q76 => ?_
                    have n77 : i35 ≠ i73 := fun e => ne_new o66 (e.trans q76)
                    have n78 : i57 ≠ i73 := fun e => ne_new o64 (e.trans q76)
                    have o79 := keep0 k75 o66
                    have o80 := keep0 k75 o64
                    refine xo_store rfl o74 (LR.whole _ _) (c24_len _) rfl rfl (c24_len _) (c24_one _) fun s81 o82 k83 => ?_
                    have o84 := k83 _ _ o79 n77
                    have o85 := k83 _ _ o80 n78
                    refine xo (e_mv' (v := AV.int .i64 r69.2.1) rfl) ?_
                    refine xo (e_mv' (v := AV.int .i64 r69.2.2.1) rfl) ?_
                    refine xo (e_mv' (v := AV.int .i64 r69.2.2.2) rfl) ?_
                    refine ato_nil ?_
                    refine atn_seq ?_
                    refine at_seq (a := C5_46) (b := C5_47) ?_
                    refine at_ops (l := O5_46) ?_
                    refine xo (e_mv' (v := AV.int .i64 r53.2.2.1) rfl) ?_
                    refine xo (e_bin (v := .bool ((r53.2.2.1 == 0))) rfl rfl rfl) ?_
                    refine xo (e_mv' (v := AV.bool (r53.2.2.1 == 0)) rfl) ?_
                    refine bsplit (b := (r53.2.2.1 == 0)) (fun c86 => ?_) (fun c86 => ?_)
                    · have hF := ite_t c86 hF
                      refine xo_on rfl c86 ?_
                      refine xo (e_mv' (v := AV.int .i64 r53.2.1) rfl) ?_
                      refine xo_on rfl c86 ?_
                      refine xo (e_mv' (v := AV.int .i64 r31.2.1) rfl) ?_
                      refine xo_on rfl c86 ?_
                      refine xo (e_bin (v := .bool ((r53.2.1 == r31.2.1))) rfl rfl rfl) ?_
                      refine xo (e_pick_t (v := AV.bool (r53.2.1 == r31.2.1)) rfl c86 rfl) ?_
                      refine xo (e_mv' (v := AV.bool (r53.2.1 == r31.2.1)) rfl) ?_
                      refine bsplit (b := (r53.2.1 == r31.2.1)) (fun c87 => ?_) (fun c87 => ?_)
                      · have hF := ite_t c87 hF
                        refine xo_on rfl c87 ?_
                        refine xo (e_loadN rfl o85 (LR.whole _ _) (c24_len _)) ?_
                        refine xo_on rfl c87 ?_
                        refine xo (e_loadN rfl o84 (LR.whole _ _) (c24_len _)) ?_
                        refine xo_on rfl c87 ?_
                        refine xo (e_eqA rfl rfl (c24_eq _ _)) ?_
                        refine xo (e_pick_t (v := AV.bool (decide (r53.1 = r31.1))) rfl c87 rfl) ?_
                        refine xo (e_mv' (v := AV.bool (decide (r53.1 = r31.1))) rfl) ?_
                        refine bsplit (b := decide (r53.1 = r31.1)) (fun c88 => ?_) (fun c88 => ?_)
                        · have hF := ite_t c88 hF
                          refine xo_on rfl c88 ?_
                          refine xo (e_mv' (v := AV.int .i64 r69.2.2.1) rfl) ?_
                          refine xo_on rfl c88 ?_
                          refine xo (e_bin (v := .bool ((r69.2.2.1 == 0))) rfl rfl rfl) ?_
                          refine xo (e_pick_t (v := AV.bool (r69.2.2.1 == 0)) rfl c88 rfl) ?_
                          refine xo (e_mv' (v := AV.bool (r69.2.2.1 == 0)) rfl) ?_
                          refine bsplit (b := (r69.2.2.1 == 0)) (fun c89 => ?_) (fun c89 => ?_)
                          · have hF := ite_t c89 hF
                            refine xo_on rfl c89 ?_
                            refine xo (e_loadN rfl o82 (LR.whole _ _) (c24_len _)) ?_
                            refine xo_on rfl c89 ?_
                            refine xo (e_loadN rfl o84 (LR.whole _ _) (c24_len _)) ?_
                            refine xo_on rfl c89 ?_
                            refine xo (e_eqA rfl rfl (c24_eq _ _)) ?_
                            refine xo (e_pick_t (v := AV.bool (decide (r69.1 = r31.1))) rfl c89 rfl) ?_
                            refine xo (e_mv' (v := AV.bool (decide (r69.1 = r31.1))) rfl) ?_
                            refine ato_nil ?_
                            refine atn_seq ?_
                            refine at_ret ?_
                            cases hF
                            exact atr (rl_tmp rfl rl_nil) (isd (ds_eq rfl ds_b))
                          · have hF := ite_f c89 hF
                            refine xo_off rfl c89 ?_
                            refine xo_off rfl c89 ?_
                            refine xo_off rfl c89 ?_
                            refine xo (e_pick_f (v := AV.bool false) rfl c89 rfl) ?_
                            refine xo (e_mv' (v := AV.bool false) rfl) ?_
                            refine ato_nil ?_
                            refine atn_seq ?_
                            refine at_ret ?_
                            cases hF
                            exact atr (rl_tmp rfl rl_nil) (isd (ds_eq rfl ds_b))
                        · have hF := ite_f c88 hF
                          refine xo_off rfl c88 ?_
                          refine xo_off rfl c88 ?_
                          refine xo (e_pick_f (v := AV.bool false) rfl c88 rfl) ?_
                          refine xo (e_mv' (v := AV.bool false) rfl) ?_
                          refine xo_off rfl rfl ?_
                          refine xo_off rfl rfl ?_
                          refine xo_off rfl rfl ?_
                          refine xo (e_pick_f (v := AV.bool false) rfl rfl rfl) ?_
                          refine xo (e_mv' (v := AV.bool false) rfl) ?_
                          refine ato_nil ?_
                          refine atn_seq ?_
                          refine at_ret ?_
                          cases hF
                          exact atr (rl_tmp rfl rl_nil) (isd (ds_eq rfl ds_b))
                      · have hF := ite_f c87 hF
                        refine xo_off rfl c87 ?_
                        refine xo_off rfl c87 ?_
                        refine xo_off rfl c87 ?_
                        refine xo (e_pick_f (v := AV.bool false) rfl c87 rfl) ?_
                        refine xo (e_mv' (v := AV.bool false) rfl) ?_
                        refine xo_off rfl rfl ?_
                        refine xo_off rfl rfl ?_
                        refine xo (e_pick_f (v := AV.bool false) rfl rfl rfl) ?_
                        refine xo (e_mv' (v := AV.bool false) rfl) ?_
                        refine xo_off rfl rfl ?_
                        refine xo_off rfl rfl ?_
                        refine xo_off rfl rfl ?_
                        refine xo (e_pick_f (v := AV.bool false) rfl rfl rfl) ?_
                        refine xo (e_mv' (v := AV.bool false) rfl) ?_
                        refine ato_nil ?_
                        refine atn_seq ?_
                        refine at_ret ?_
                        cases hF
                        exact atr (rl_tmp rfl rl_nil) (isd (ds_eq rfl ds_b))
                    · have hF := ite_f c86 hF
                      refine xo_off rfl c86 ?_
                      refine xo_off rfl c86 ?_
                      refine xo_off rfl c86 ?_
                      refine xo (e_pick_f (v := AV.bool false) rfl c86 rfl) ?_
                      refine xo (e_mv' (v := AV.bool false) rfl) ?_
                      refine xo_off rfl rfl ?_
                      refine xo_off rfl rfl ?_
                      refine xo_off rfl rfl ?_
                      refine xo (e_pick_f (v := AV.bool false) rfl rfl rfl) ?_
                      refine xo (e_mv' (v := AV.bool false) rfl) ?_
                      refine xo_off rfl rfl ?_
                      refine xo_off rfl rfl ?_
                      refine xo (e_pick_f (v := AV.bool false) rfl rfl rfl) ?_
                      refine xo (e_mv' (v := AV.bool false) rfl) ?_
                      refine xo_off rfl rfl ?_
                      refine xo_off rfl rfl ?_
                      refine xo_off rfl rfl ?_
                      refine xo (e_pick_f (v := AV.bool false) rfl rfl rfl) ?_
                      refine xo (e_mv' (v := AV.bool false) rfl) ?_
                      refine ato_nil ?_
                      refine atn_seq ?_
                      refine at_ret ?_
                      cases hF
                      exact atr (rl_tmp rfl rl_nil) (isd (ds_eq rfl ds_b))
/-! ### 7: paddock/paddocklaw07.SetsTurned -/
def O7_2 : List AOp := [⟨(.some 2), .none, (.plain (.box 4 (.t 0)))⟩, ⟨(.some 3), .none, (.plain (.box 4 (.t 1)))⟩, ⟨(.some 4), .none, (.plain (.mv (.c (.bool false))))⟩]
def C7_2 : ACode := .ops O7_2
def Q7_4_5 : List AOp := ⟨(.some 4), .none, (.plain (.mv (.t 44)))⟩ :: []
def Q7_4_4 : List AOp := ⟨(.some 37), .none, (.plain (.pick (.t 31) (.t 36) (.c (.bool false))))⟩ :: ⟨(.some 38), .none, (.plain (.mv (.t 37)))⟩ :: ⟨(.some 39), (.some (38, true)), (.plain (.loadN 4 (.t 2)))⟩ :: ⟨(.some 40), (.some (38, true)), (.call 24 [(.t 39)])⟩ :: ⟨(.some 41), (.some (38, true)), (.plain (.loadN 4 (.t 2)))⟩ :: ⟨(.some 42), (.some (38, true)), (.call 33 [(.t 41)])⟩ :: ⟨(.some 43), (.some (38, true)), (.plain (.binS .eql (.t 40) (.t 42)))⟩ :: ⟨(.some 44), .none, (.plain (.pick (.t 38) (.t 43) (.c (.bool false))))⟩ :: Q7_4_5
def Q7_4_3 : List AOp := ⟨(.some 29), (.some (24, true)), (.plain (.eqA false [.i, .i, .i, .i] (.t 26) (.t 28)))⟩ :: ⟨(.some 30), .none, (.plain (.pick (.t 24) (.t 29) (.c (.bool false))))⟩ :: ⟨(.some 31), .none, (.plain (.mv (.t 30)))⟩ :: ⟨(.some 32), (.some (31, true)), (.plain (.loadN 4 (.t 2)))⟩ :: ⟨(.some 33), (.some (31, true)), (.call 31 [(.t 32)])⟩ :: ⟨(.some 34), (.some (31, true)), (.plain (.loadN 4 (.t 2)))⟩ :: ⟨(.some 35), (.some (31, true)), (.call 32 [(.t 34)])⟩ :: ⟨(.some 36), (.some (31, true)), (.plain (.eqA false [.i, .i, .i, .i] (.t 33) (.t 35)))⟩ :: Q7_4_4
def Q7_4_2 : List AOp := ⟨(.some 21), (.some (15, true)), (.call 28 [(.t 19), (.t 20)])⟩ :: ⟨(.some 22), (.some (15, true)), (.plain (.eqA false [.i, .i, .i, .i] (.t 18) (.t 21)))⟩ :: ⟨(.some 23), .none, (.plain (.pick (.t 15) (.t 22) (.c (.bool false))))⟩ :: ⟨(.some 24), .none, (.plain (.mv (.t 23)))⟩ :: ⟨(.some 25), (.some (24, true)), (.plain (.loadN 4 (.t 2)))⟩ :: ⟨(.some 26), (.some (24, true)), (.call 29 [(.t 25)])⟩ :: ⟨(.some 27), (.some (24, true)), (.plain (.loadN 4 (.t 2)))⟩ :: ⟨(.some 28), (.some (24, true)), (.call 30 [(.t 27)])⟩ :: Q7_4_3
def Q7_4_1 : List AOp := ⟨(.some 13), (.some (6, true)), (.plain (.eqA false [.i, .i, .i, .i] (.t 9) (.t 12)))⟩ :: ⟨(.some 14), .none, (.plain (.pick (.t 6) (.t 13) (.c (.bool false))))⟩ :: ⟨(.some 15), .none, (.plain (.mv (.t 14)))⟩ :: ⟨(.some 16), (.some (15, true)), (.plain (.loadN 4 (.t 2)))⟩ :: ⟨(.some 17), (.some (15, true)), (.plain (.loadN 4 (.t 3)))⟩ :: ⟨(.some 18), (.some (15, true)), (.call 27 [(.t 16), (.t 17)])⟩ :: ⟨(.some 19), (.some (15, true)), (.plain (.loadN 4 (.t 2)))⟩ :: ⟨(.some 20), (.some (15, true)), (.plain (.loadN 4 (.t 3)))⟩ :: Q7_4_2
def Q7_4 : List AOp := ⟨(.some 5), .none, (.call 11 [])⟩ :: ⟨(.some 6), .none, (.plain (.mv (.t 5)))⟩ :: ⟨(.some 7), (.some (6, true)), (.plain (.loadN 4 (.t 2)))⟩ :: ⟨(.some 8), (.some (6, true)), (.plain (.loadN 4 (.t 3)))⟩ :: ⟨(.some 9), (.some (6, true)), (.call 25 [(.t 7), (.t 8)])⟩ :: ⟨(.some 10), (.some (6, true)), (.plain (.loadN 4 (.t 2)))⟩ :: ⟨(.some 11), (.some (6, true)), (.plain (.loadN 4 (.t 3)))⟩ :: ⟨(.some 12), (.some (6, true)), (.call 26 [(.t 10), (.t 11)])⟩ :: Q7_4_1
def S7_4 : List AOp := []
def C7_4 : ACode := .draw [] 0 0 Q7_4 S7_4
def C7_5 : ACode := .ret
def C7_3 : ACode := .seq C7_4 C7_5
def C7_1 : ACode := .seq C7_2 C7_3
def R7 : List RA := [(.tmp 4)]
theorem k7 : compF Try.prog (muL []) 7 = some ⟨45, C7_1, R7⟩ := by kernel_rfl
noncomputable def X7 (r : Bool) : Cx := ⟨Try.prog, noG, 45, muL [], R7, isD (fun x => x = AV.bool r)⟩
noncomputable def F7 (a : Arr 4 Int) (b : Arr 4 Int) : Option Bool :=
  (F11 >>= fun r15 =>
    (if r15 = true then
      (F25 a b >>= fun r18 =>
        (F26 a b >>= fun r20 =>
          (if (decide (r18 = r20)) = true then
            (F27 a b >>= fun r23 =>
              (F28 a b >>= fun r25 =>
                (if (decide (r23 = r25)) = true then
                  (F29 a >>= fun r28 =>
                    (F30 a >>= fun r30 =>
                      (if (decide (r28 = r30)) = true then
                        (F31 a >>= fun r33 =>
                          (F32 a >>= fun r35 =>
                            (if (decide (r33 = r35)) = true then
                              (F24 a >>= fun r38 =>
                                (F33 a >>= fun r40 =>
                                  (some (r38 == r40))))
                            else
                              (some false))))
                      else
                        (some false))))
                else
                  (some false))))
          else
            (some false))))
    else
      (some false)))
theorem d7 (a : Arr 4 Int) (b : Arr 4 Int) (r : Bool) (hF : F7 a b = some r) : DFun Try.prog noG 7 [AV.agg (c24 a), AV.agg (c24 b)] (AV.bool r) := by
  unfold F7 at hF
  refine dfun_at k7 (Nat.le_of_ble_eq_true rfl) ?_
  show At (X7 r) _ _ _ _
  refine at_seq (a := C7_2) (b := C7_3) ?_
  refine at_ops (l := O7_2) ?_
  refine xo_box (cs := c24 a) rfl rfl (c24_len _) fun s2 i3 o4 k5 q6 => ?_
  refine xo_box (cs := c24 b) rfl rfl (c24_len _) fun s8 i9 o10 k11 q12 => ?_
  have n13 : i3 ≠ i9 := fun e => ne_new o4 (e.trans q12)
  have o14 := keep0 k11 o4
  refine xo (e_mv' (v := AV.bool false) rfl) ?_
  refine ato_nil ?_
  refine atn_seq ?_
  refine at_seq (a := C7_4) (b := C7_5) ?_
  refine at_draw0 (q := Q7_4) (suf := S7_4) ?_
  obtain ⟨r15, g16, hF⟩ := bind_some hF
  refine xd_dfun' (d11 _ g16) dsl_nil ?_
  refine xd rfl (e_mv' (v := AV.bool r15) rfl) ?_
  refine bsplit (b := r15) (fun c17 => ?_) (fun c17 => ?_)
  · have hF := ite_t c17 hF
    refine xd_on rfl c17 ?_
    refine xd rfl (e_loadN rfl o14 (LR.whole _ _) (c24_len _)) ?_
    refine xd_on rfl c17 ?_
    refine xd rfl (e_loadN rfl o10 (LR.whole _ _) (c24_len _)) ?_
    obtain ⟨r18, g19, hF⟩ := bind_some hF
    refine xd_on rfl c17 ?_
    refine xd_dfun' (d25 a b _ g19) (dsl_cons (ds_eq rfl (ds_agg (c24_ds _))) (dsl_cons (ds_eq rfl (ds_agg (c24_ds _))) dsl_nil)) ?_
    refine xd_on rfl c17 ?_
    refine xd rfl (e_loadN rfl o14 (LR.whole _ _) (c24_len _)) ?_
    refine xd_on rfl c17 ?_
    refine xd rfl (e_loadN rfl o10 (LR.whole _ _) (c24_len _)) ?_
    obtain ⟨r20, g21, hF⟩ := bind_some hF
    refine xd_on rfl c17 ?_
    refine xd_dfun' (d26 a b _ g21) (dsl_cons (ds_eq rfl (ds_agg (c24_ds _))) (dsl_cons (ds_eq rfl (ds_agg (c24_ds _))) dsl_nil)) ?_
    refine xd_on rfl c17 ?_
    refine xd rfl (e_eqA rfl rfl (c24_eq _ _)) ?_
    refine xd rfl (e_pick_t (v := AV.bool (decide (r18 = r20))) rfl c17 rfl) ?_
    refine xd rfl (e_mv' (v := AV.bool (decide (r18 = r20))) rfl) ?_
    refine bsplit (b := decide (r18 = r20)) (fun c22 => ?_) (fun c22 => ?_)
    · have hF := ite_t c22 hF
      refine xd_on rfl c22 ?_
      refine xd rfl (e_loadN rfl o14 (LR.whole _ _) (c24_len _)) ?_
      refine xd_on rfl c22 ?_
      refine xd rfl (e_loadN rfl o10 (LR.whole _ _) (c24_len _)) ?_
      obtain ⟨r23, g24, hF⟩ := bind_some hF
      refine xd_on rfl c22 ?_
      refine xd_dfun' (d27 a b _ g24) (dsl_cons (ds_eq rfl (ds_agg (c24_ds _))) (dsl_cons (ds_eq rfl (ds_agg (c24_ds _))) dsl_nil)) ?_
      refine xd_on rfl c22 ?_
      refine xd rfl (e_loadN rfl o14 (LR.whole _ _) (c24_len _)) ?_
      refine xd_on rfl c22 ?_
      refine xd rfl (e_loadN rfl o10 (LR.whole _ _) (c24_len _)) ?_
      obtain ⟨r25, g26, hF⟩ := bind_some hF
      refine xd_on rfl c22 ?_
      refine xd_dfun' (d28 a b _ g26) (dsl_cons (ds_eq rfl (ds_agg (c24_ds _))) (dsl_cons (ds_eq rfl (ds_agg (c24_ds _))) dsl_nil)) ?_
      refine xd_on rfl c22 ?_
      refine xd rfl (e_eqA rfl rfl (c24_eq _ _)) ?_
      refine xd rfl (e_pick_t (v := AV.bool (decide (r23 = r25))) rfl c22 rfl) ?_
      refine xd rfl (e_mv' (v := AV.bool (decide (r23 = r25))) rfl) ?_
      refine bsplit (b := decide (r23 = r25)) (fun c27 => ?_) (fun c27 => ?_)
      · have hF := ite_t c27 hF
        refine xd_on rfl c27 ?_
        refine xd rfl (e_loadN rfl o14 (LR.whole _ _) (c24_len _)) ?_
        obtain ⟨r28, g29, hF⟩ := bind_some hF
        refine xd_on rfl c27 ?_
        refine xd_dfun' (d29 a _ g29) (dsl_cons (ds_eq rfl (ds_agg (c24_ds _))) dsl_nil) ?_
        refine xd_on rfl c27 ?_
        refine xd rfl (e_loadN rfl o14 (LR.whole _ _) (c24_len _)) ?_
        obtain ⟨r30, g31, hF⟩ := bind_some hF
        refine xd_on rfl c27 ?_
        refine xd_dfun' (d30 a _ g31) (dsl_cons (ds_eq rfl (ds_agg (c24_ds _))) dsl_nil) ?_
        refine xd_on rfl c27 ?_
        refine xd rfl (e_eqA rfl rfl (c24_eq _ _)) ?_
        refine xd rfl (e_pick_t (v := AV.bool (decide (r28 = r30))) rfl c27 rfl) ?_
        refine xd rfl (e_mv' (v := AV.bool (decide (r28 = r30))) rfl) ?_
        refine bsplit (b := decide (r28 = r30)) (fun c32 => ?_) (fun c32 => ?_)
        · have hF := ite_t c32 hF
          refine xd_on rfl c32 ?_
          refine xd rfl (e_loadN rfl o14 (LR.whole _ _) (c24_len _)) ?_
          obtain ⟨r33, g34, hF⟩ := bind_some hF
          refine xd_on rfl c32 ?_
          refine xd_dfun' (d31 a _ g34) (dsl_cons (ds_eq rfl (ds_agg (c24_ds _))) dsl_nil) ?_
          refine xd_on rfl c32 ?_
          refine xd rfl (e_loadN rfl o14 (LR.whole _ _) (c24_len _)) ?_
          obtain ⟨r35, g36, hF⟩ := bind_some hF
          refine xd_on rfl c32 ?_
          refine xd_dfun' (d32 a _ g36) (dsl_cons (ds_eq rfl (ds_agg (c24_ds _))) dsl_nil) ?_
          refine xd_on rfl c32 ?_
          refine xd rfl (e_eqA rfl rfl (c24_eq _ _)) ?_
          refine xd rfl (e_pick_t (v := AV.bool (decide (r33 = r35))) rfl c32 rfl) ?_
          refine xd rfl (e_mv' (v := AV.bool (decide (r33 = r35))) rfl) ?_
          refine bsplit (b := decide (r33 = r35)) (fun c37 => ?_) (fun c37 => ?_)
          · have hF := ite_t c37 hF
            refine xd_on rfl c37 ?_
            refine xd rfl (e_loadN rfl o14 (LR.whole _ _) (c24_len _)) ?_
            obtain ⟨r38, g39, hF⟩ := bind_some hF
            refine xd_on rfl c37 ?_
            refine xd_dfun' (d24 a _ g39) (dsl_cons (ds_eq rfl (ds_agg (c24_ds _))) dsl_nil) ?_
            refine xd_on rfl c37 ?_
            refine xd rfl (e_loadN rfl o14 (LR.whole _ _) (c24_len _)) ?_
            obtain ⟨r40, g41, hF⟩ := bind_some hF
            refine xd_on rfl c37 ?_
            refine xd_dfun' (d33 a _ g41) (dsl_cons (ds_eq rfl (ds_agg (c24_ds _))) dsl_nil) ?_
            refine xd_on rfl c37 ?_
            refine xd rfl (e_str (v := .bool (r38 == r40)) rfl rfl rfl) ?_
            refine xd rfl (e_pick_t (v := AV.bool (r38 == r40)) rfl c37 rfl) ?_
            refine xd rfl (e_mv' (v := AV.bool (r38 == r40)) rfl) ?_
            refine atd_nil ?_
            refine ato_nil ?_
            refine atn_seq ?_
            refine at_ret ?_
            cases hF
            exact atr (rl_tmp rfl rl_nil) (isd (ds_eq rfl ds_b))
          · have hF := ite_f c37 hF
            refine xd_off rfl c37 rfl ?_
            refine xd_off rfl c37 rfl ?_
            refine xd_off rfl c37 rfl ?_
            refine xd_off rfl c37 rfl ?_
            refine xd_off rfl c37 rfl ?_
            refine xd rfl (e_pick_f (v := AV.bool false) rfl c37 rfl) ?_
            refine xd rfl (e_mv' (v := AV.bool false) rfl) ?_
            refine atd_nil ?_
            refine ato_nil ?_
            refine atn_seq ?_
            refine at_ret ?_
            cases hF
            exact atr (rl_tmp rfl rl_nil) (isd (ds_eq rfl ds_b))
        · have hF := ite_f c32 hF
          refine xd_off rfl c32 rfl ?_
          refine xd_off rfl c32 rfl ?_
          refine xd_off rfl c32 rfl ?_
          refine xd_off rfl c32 rfl ?_
          refine xd_off rfl c32 rfl ?_
          refine xd rfl (e_pick_f (v := AV.bool false) rfl c32 rfl) ?_
          refine xd rfl (e_mv' (v := AV.bool false) rfl) ?_
          refine xd_off rfl rfl rfl ?_
          refine xd_off rfl rfl rfl ?_
          refine xd_off rfl rfl rfl ?_
          refine xd_off rfl rfl rfl ?_
          refine xd_off rfl rfl rfl ?_
          refine xd rfl (e_pick_f (v := AV.bool false) rfl rfl rfl) ?_
          refine xd rfl (e_mv' (v := AV.bool false) rfl) ?_
          refine atd_nil ?_
          refine ato_nil ?_
          refine atn_seq ?_
          refine at_ret ?_
          cases hF
          exact atr (rl_tmp rfl rl_nil) (isd (ds_eq rfl ds_b))
      · have hF := ite_f c27 hF
        refine xd_off rfl c27 rfl ?_
        refine xd_off rfl c27 rfl ?_
        refine xd_off rfl c27 rfl ?_
        refine xd_off rfl c27 rfl ?_
        refine xd_off rfl c27 rfl ?_
        refine xd rfl (e_pick_f (v := AV.bool false) rfl c27 rfl) ?_
        refine xd rfl (e_mv' (v := AV.bool false) rfl) ?_
        refine xd_off rfl rfl rfl ?_
        refine xd_off rfl rfl rfl ?_
        refine xd_off rfl rfl rfl ?_
        refine xd_off rfl rfl rfl ?_
        refine xd_off rfl rfl rfl ?_
        refine xd rfl (e_pick_f (v := AV.bool false) rfl rfl rfl) ?_
        refine xd rfl (e_mv' (v := AV.bool false) rfl) ?_
        refine xd_off rfl rfl rfl ?_
        refine xd_off rfl rfl rfl ?_
        refine xd_off rfl rfl rfl ?_
        refine xd_off rfl rfl rfl ?_
        refine xd_off rfl rfl rfl ?_
        refine xd rfl (e_pick_f (v := AV.bool false) rfl rfl rfl) ?_
        refine xd rfl (e_mv' (v := AV.bool false) rfl) ?_
        refine atd_nil ?_
        refine ato_nil ?_
        refine atn_seq ?_
        refine at_ret ?_
        cases hF
        exact atr (rl_tmp rfl rl_nil) (isd (ds_eq rfl ds_b))
    · have hF := ite_f c22 hF
      refine xd_off rfl c22 rfl ?_
      refine xd_off rfl c22 rfl ?_
      refine xd_off rfl c22 rfl ?_
      refine xd_off rfl c22 rfl ?_
      refine xd_off rfl c22 rfl ?_
      refine xd_off rfl c22 rfl ?_
      refine xd_off rfl c22 rfl ?_
      refine xd rfl (e_pick_f (v := AV.bool false) rfl c22 rfl) ?_
      refine xd rfl (e_mv' (v := AV.bool false) rfl) ?_
      refine xd_off rfl rfl rfl ?_
      refine xd_off rfl rfl rfl ?_
      refine xd_off rfl rfl rfl ?_
      refine xd_off rfl rfl rfl ?_
      refine xd_off rfl rfl rfl ?_
      refine xd rfl (e_pick_f (v := AV.bool false) rfl rfl rfl) ?_
      refine xd rfl (e_mv' (v := AV.bool false) rfl) ?_
      refine xd_off rfl rfl rfl ?_
      refine xd_off rfl rfl rfl ?_
      refine xd_off rfl rfl rfl ?_
      refine xd_off rfl rfl rfl ?_
      refine xd_off rfl rfl rfl ?_
      refine xd rfl (e_pick_f (v := AV.bool false) rfl rfl rfl) ?_
      refine xd rfl (e_mv' (v := AV.bool false) rfl) ?_
      refine xd_off rfl rfl rfl ?_
      refine xd_off rfl rfl rfl ?_
      refine xd_off rfl rfl rfl ?_
      refine xd_off rfl rfl rfl ?_
      refine xd_off rfl rfl rfl ?_
      refine xd rfl (e_pick_f (v := AV.bool false) rfl rfl rfl) ?_
      refine xd rfl (e_mv' (v := AV.bool false) rfl) ?_
      refine atd_nil ?_
      refine ato_nil ?_
      refine atn_seq ?_
      refine at_ret ?_
      cases hF
      exact atr (rl_tmp rfl rl_nil) (isd (ds_eq rfl ds_b))
  · have hF := ite_f c17 hF
    refine xd_off rfl c17 rfl ?_
    refine xd_off rfl c17 rfl ?_
    refine xd_off rfl c17 rfl ?_
    refine xd_off rfl c17 rfl ?_
    refine xd_off rfl c17 rfl ?_
    refine xd_off rfl c17 rfl ?_
    refine xd_off rfl c17 rfl ?_
    refine xd rfl (e_pick_f (v := AV.bool false) rfl c17 rfl) ?_
    refine xd rfl (e_mv' (v := AV.bool false) rfl) ?_
    refine xd_off rfl rfl rfl ?_
    refine xd_off rfl rfl rfl ?_
    refine xd_off rfl rfl rfl ?_
    refine xd_off rfl rfl rfl ?_
    refine xd_off rfl rfl rfl ?_
    refine xd_off rfl rfl rfl ?_
    refine xd_off rfl rfl rfl ?_
    refine xd rfl (e_pick_f (v := AV.bool false) rfl rfl rfl) ?_
    refine xd rfl (e_mv' (v := AV.bool false) rfl) ?_
    refine xd_off rfl rfl rfl ?_
    refine xd_off rfl rfl rfl ?_
    refine xd_off rfl rfl rfl ?_
    refine xd_off rfl rfl rfl ?_
    refine xd_off rfl rfl rfl ?_
    refine xd rfl (e_pick_f (v := AV.bool false) rfl rfl rfl) ?_
    refine xd rfl (e_mv' (v := AV.bool false) rfl) ?_
    refine xd_off rfl rfl rfl ?_
    refine xd_off rfl rfl rfl ?_
    refine xd_off rfl rfl rfl ?_
    refine xd_off rfl rfl rfl ?_
    refine xd_off rfl rfl rfl ?_
    refine xd rfl (e_pick_f (v := AV.bool false) rfl rfl rfl) ?_
    refine xd rfl (e_mv' (v := AV.bool false) rfl) ?_
    refine xd_off rfl rfl rfl ?_
    refine xd_off rfl rfl rfl ?_
    refine xd_off rfl rfl rfl ?_
    refine xd_off rfl rfl rfl ?_
    refine xd_off rfl rfl rfl ?_
    refine xd rfl (e_pick_f (v := AV.bool false) rfl rfl rfl) ?_
    refine xd rfl (e_mv' (v := AV.bool false) rfl) ?_
    refine atd_nil ?_
    refine ato_nil ?_
    refine atn_seq ?_
    refine at_ret ?_
    cases hF
    exact atr (rl_tmp rfl rl_nil) (isd (ds_eq rfl ds_b))
/-! ### 8: paddock/paddocklaw07.SetsLaws -/
def O8_2 : List AOp := [⟨(.some 3), .none, (.plain (.box 4 (.t 0)))⟩, ⟨(.some 4), .none, (.plain (.box 4 (.t 1)))⟩, ⟨(.some 6), .none, (.plain (.mv (.c (.bool false))))⟩]
def C8_2 : ACode := .ops O8_2
def O8_5 : List AOp := [⟨(.some 13), .none, (.call 11 [])⟩, ⟨(.some 14), .none, (.plain (.un .not (.t 13)))⟩]
def C8_5 : ACode := .ops O8_5
def O8_8 : List AOp := [⟨(.some 6), .none, (.plain (.mv (.c (.bool false))))⟩]
def C8_8 : ACode := .ops O8_8
def C8_9 : ACode := .ret
def C8_7 : ACode := .seq C8_8 C8_9
def C8_10 : ACode := .skip
def C8_6 : ACode := .cond (.t 14) C8_7 C8_10
def C8_4 : ACode := .seq C8_5 C8_6
def Q8_12 : List AOp := [⟨(.some 15), .none, (.plain (.loadN 4 (.t 3)))⟩, ⟨(.some 16), .none, (.plain (.mv (.t 2)))⟩, ⟨(.some 17), .none, (.call 17 [(.t 15), (.t 16)])⟩, ⟨(.some 18), .none, (.plain (.loadN 4 (.t 4)))⟩, ⟨(.some 19), .none, (.plain (.mv (.t 2)))⟩, ⟨(.some 20), .none, (.call 17 [(.t 18), (.t 19)])⟩, ⟨(.some 7), .none, (.plain (.mv (.t 17)))⟩, ⟨(.some 8), .none, (.plain (.mv (.t 20)))⟩]
def S8_12 : List AOp := []
def C8_12 : ACode := .draw [] 0 0 Q8_12 S8_12
def Q8_14_1 : List AOp := ⟨(.some 9), .none, (.plain (.alloc [(.int .u64 0), (.int .u64 0), (.int .u64 0), (.int .u64 0)]))⟩ :: ⟨(.some 10), .none, (.plain (.alloc [(.int .u64 0), (.int .u64 0), (.int .u64 0), (.int .u64 0)]))⟩ :: ⟨(.some 11), .none, (.plain (.alloc [(.int .u64 0), (.int .u64 0), (.int .u64 0), (.int .u64 0)]))⟩ :: []
def Q8_14 : List AOp := ⟨(.some 21), .none, (.plain (.loadN 4 (.t 3)))⟩ :: ⟨(.some 22), .none, (.plain (.loadN 4 (.t 4)))⟩ :: ⟨(.some 23), .none, (.call 25 [(.t 21), (.t 22)])⟩ :: ⟨(.some 24), .none, (.plain (.loadN 4 (.t 3)))⟩ :: ⟨(.some 25), .none, (.plain (.loadN 4 (.t 4)))⟩ :: ⟨(.some 26), .none, (.call 27 [(.t 24), (.t 25)])⟩ :: ⟨(.some 27), .none, (.plain (.loadN 4 (.t 3)))⟩ :: ⟨(.some 28), .none, (.call 29 [(.t 27)])⟩ :: Q8_14_1
def S8_14 : List AOp := [⟨.none, .none, (.plain (.store 4 (.t 9) (.t 23)))⟩, ⟨.none, .none, (.plain (.store 4 (.t 10) (.t 26)))⟩, ⟨.none, .none, (.plain (.store 4 (.t 11) (.t 28)))⟩]
def C8_14 : ACode := .draw [] 0 3 Q8_14 S8_14
def O8_17_3 : List AOp := ⟨(.some 53), .none, (.plain (.pick (.t 47) (.c (.bool true)) (.t 52)))⟩ :: []
def O8_17_2 : List AOp := ⟨(.some 45), (.some (37, false)), (.plain (.eqB true (.t 40) (.t 44)))⟩ :: ⟨(.some 46), .none, (.plain (.pick (.t 37) (.c (.bool true)) (.t 45)))⟩ :: ⟨(.some 47), .none, (.plain (.mv (.t 46)))⟩ :: ⟨(.some 48), (.some (47, false)), (.plain (.loadN 4 (.t 11)))⟩ :: ⟨(.some 49), (.some (47, false)), (.plain (.mv (.t 2)))⟩ :: ⟨(.some 50), (.some (47, false)), (.call 17 [(.t 48), (.t 49)])⟩ :: ⟨(.some 51), (.some (47, false)), (.plain (.mv (.t 7)))⟩ :: ⟨(.some 52), (.some (47, false)), (.plain (.eqB false (.t 50) (.t 51)))⟩ :: O8_17_3
def O8_17_1 : List AOp := ⟨(.some 37), .none, (.plain (.mv (.t 36)))⟩ :: ⟨(.some 38), (.some (37, false)), (.plain (.loadN 4 (.t 10)))⟩ :: ⟨(.some 39), (.some (37, false)), (.plain (.mv (.t 2)))⟩ :: ⟨(.some 40), (.some (37, false)), (.call 17 [(.t 38), (.t 39)])⟩ :: ⟨(.some 41), (.some (37, false)), (.plain (.mv (.t 7)))⟩ :: ⟨(.some 42), (.some (37, false)), (.plain (.mv (.t 41)))⟩ :: ⟨(.some 43), (.some (42, false)), (.plain (.mv (.t 8)))⟩ :: ⟨(.some 44), (.some (37, false)), (.plain (.pick (.t 42) (.c (.bool true)) (.t 43)))⟩ :: O8_17_2
def O8_17 : List AOp := ⟨(.some 29), .none, (.plain (.loadN 4 (.t 9)))⟩ :: ⟨(.some 30), .none, (.plain (.mv (.t 2)))⟩ :: ⟨(.some 31), .none, (.call 17 [(.t 29), (.t 30)])⟩ :: ⟨(.some 32), .none, (.plain (.mv (.t 7)))⟩ :: ⟨(.some 33), .none, (.plain (.mv (.t 32)))⟩ :: ⟨(.some 34), (.some (33, true)), (.plain (.mv (.t 8)))⟩ :: ⟨(.some 35), .none, (.plain (.pick (.t 33) (.t 34) (.c (.bool false))))⟩ :: ⟨(.some 36), .none, (.plain (.eqB true (.t 31) (.t 35)))⟩ :: O8_17_1
def C8_17 : ACode := .ops O8_17
def O8_20 : List AOp := [⟨(.some 6), .none, (.plain (.mv (.c (.bool false))))⟩]
def C8_20 : ACode := .ops O8_20
def C8_21 : ACode := .ret
def C8_19 : ACode := .seq C8_20 C8_21
def C8_22 : ACode := .skip
def C8_18 : ACode := .cond (.t 53) C8_19 C8_22
def C8_16 : ACode := .seq C8_17 C8_18
def O8_24 : List AOp := [⟨(.some 54), .none, (.plain (.loadN 4 (.t 3)))⟩, ⟨(.some 55), .none, (.call 31 [(.t 54)])⟩, ⟨(.some 12), .none, (.plain (.alloc [(.int .u64 0), (.int .u64 0), (.int .u64 0), (.int .u64 0)]))⟩, ⟨.none, .none, (.plain (.store 4 (.t 12) (.t 55)))⟩]
def C8_24 : ACode := .ops O8_24
def Q8_26_6 : List AOp := ⟨(.some 104), .none, (.plain (.mv (.t 103)))⟩ :: ⟨(.some 105), (.some (104, true)), (.plain (.loadN 4 (.t 11)))⟩ :: ⟨(.some 106), (.some (104, true)), (.call 29 [(.t 105)])⟩ :: ⟨(.some 107), (.some (104, true)), (.plain (.loadN 4 (.t 3)))⟩ :: ⟨(.some 108), (.some (104, true)), (.plain (.eqA false [.i, .i, .i, .i] (.t 106) (.t 107)))⟩ :: ⟨(.some 109), .none, (.plain (.pick (.t 104) (.t 108) (.c (.bool false))))⟩ :: ⟨(.some 6), .none, (.plain (.mv (.t 109)))⟩ :: []
def Q8_26_5 : List AOp := ⟨(.some 96), .none, (.plain (.pick (.t 91) (.t 95) (.c (.bool false))))⟩ :: ⟨(.some 97), .none, (.plain (.mv (.t 96)))⟩ :: ⟨(.some 98), (.some (97, true)), (.plain (.loadN 4 (.t 12)))⟩ :: ⟨(.some 99), (.some (97, true)), (.plain (.loadN 4 (.t 3)))⟩ :: ⟨(.some 100), (.some (97, true)), (.call 25 [(.t 98), (.t 99)])⟩ :: ⟨(.some 101), (.some (97, true)), (.plain (.loadN 4 (.t 3)))⟩ :: ⟨(.some 102), (.some (97, true)), (.plain (.eqA false [.i, .i, .i, .i] (.t 100) (.t 101)))⟩ :: ⟨(.some 103), .none, (.plain (.pick (.t 97) (.t 102) (.c (.bool false))))⟩ :: Q8_26_6
def Q8_26_4 : List AOp := ⟨(.some 88), (.some (84, true)), (.plain (.loadN 4 (.t 3)))⟩ :: ⟨(.some 89), (.some (84, true)), (.plain (.eqA false [.i, .i, .i, .i] (.t 87) (.t 88)))⟩ :: ⟨(.some 90), .none, (.plain (.pick (.t 84) (.t 89) (.c (.bool false))))⟩ :: ⟨(.some 91), .none, (.plain (.mv (.t 90)))⟩ :: ⟨(.some 92), (.some (91, true)), (.plain (.loadN 4 (.t 12)))⟩ :: ⟨(.some 93), (.some (91, true)), (.call 31 [(.t 92)])⟩ :: ⟨(.some 94), (.some (91, true)), (.plain (.loadN 4 (.t 12)))⟩ :: ⟨(.some 95), (.some (91, true)), (.plain (.eqA false [.i, .i, .i, .i] (.t 93) (.t 94)))⟩ :: Q8_26_5
def Q8_26_3 : List AOp := ⟨(.some 80), (.some (76, true)), (.call 19 [(.t 79)])⟩ :: ⟨(.some 81), (.some (76, true)), (.plain (.binI .sub (.c (.int .i64 256)) (.t 80)))⟩ :: ⟨(.some 82), (.some (76, true)), (.plain (.binI .eql (.t 78) (.t 81)))⟩ :: ⟨(.some 83), .none, (.plain (.pick (.t 76) (.t 82) (.c (.bool false))))⟩ :: ⟨(.some 84), .none, (.plain (.mv (.t 83)))⟩ :: ⟨(.some 85), (.some (84, true)), (.plain (.loadN 4 (.t 3)))⟩ :: ⟨(.some 86), (.some (84, true)), (.call 15 [(.t 85)])⟩ :: ⟨(.some 87), (.some (84, true)), (.call 12 [(.t 86)])⟩ :: Q8_26_4
def Q8_26_2 : List AOp := ⟨(.some 72), (.some (63, true)), (.call 19 [(.t 71)])⟩ :: ⟨(.some 73), (.some (63, true)), (.plain (.binI .sub (.t 70) (.t 72)))⟩ :: ⟨(.some 74), (.some (63, true)), (.plain (.binI .eql (.t 65) (.t 73)))⟩ :: ⟨(.some 75), .none, (.plain (.pick (.t 63) (.t 74) (.c (.bool false))))⟩ :: ⟨(.some 76), .none, (.plain (.mv (.t 75)))⟩ :: ⟨(.some 77), (.some (76, true)), (.plain (.loadN 4 (.t 11)))⟩ :: ⟨(.some 78), (.some (76, true)), (.call 19 [(.t 77)])⟩ :: ⟨(.some 79), (.some (76, true)), (.plain (.loadN 4 (.t 3)))⟩ :: Q8_26_3
def Q8_26_1 : List AOp := ⟨(.some 64), (.some (63, true)), (.plain (.loadN 4 (.t 10)))⟩ :: ⟨(.some 65), (.some (63, true)), (.call 19 [(.t 64)])⟩ :: ⟨(.some 66), (.some (63, true)), (.plain (.loadN 4 (.t 3)))⟩ :: ⟨(.some 67), (.some (63, true)), (.call 19 [(.t 66)])⟩ :: ⟨(.some 68), (.some (63, true)), (.plain (.loadN 4 (.t 4)))⟩ :: ⟨(.some 69), (.some (63, true)), (.call 19 [(.t 68)])⟩ :: ⟨(.some 70), (.some (63, true)), (.plain (.binI .add (.t 67) (.t 69)))⟩ :: ⟨(.some 71), (.some (63, true)), (.plain (.loadN 4 (.t 9)))⟩ :: Q8_26_2
def Q8_26 : List AOp := ⟨(.some 56), .none, (.plain (.loadN 4 (.t 9)))⟩ :: ⟨(.some 57), .none, (.call 29 [(.t 56)])⟩ :: ⟨(.some 58), .none, (.plain (.loadN 4 (.t 11)))⟩ :: ⟨(.some 59), .none, (.plain (.loadN 4 (.t 4)))⟩ :: ⟨(.some 60), .none, (.call 29 [(.t 59)])⟩ :: ⟨(.some 61), .none, (.call 27 [(.t 58), (.t 60)])⟩ :: ⟨(.some 62), .none, (.plain (.eqA false [.i, .i, .i, .i] (.t 57) (.t 61)))⟩ :: ⟨(.some 63), .none, (.plain (.mv (.t 62)))⟩ :: Q8_26_1
def S8_26 : List AOp := []
def C8_26 : ACode := .draw [] 0 0 Q8_26 S8_26
def C8_27 : ACode := .ret
def C8_25 : ACode := .seq C8_26 C8_27
def C8_23 : ACode := .seq C8_24 C8_25
def C8_15 : ACode := .seq C8_16 C8_23
def C8_13 : ACode := .seq C8_14 C8_15
def C8_11 : ACode := .seq C8_12 C8_13
def C8_3 : ACode := .seq C8_4 C8_11
def C8_1 : ACode := .seq C8_2 C8_3
def R8 : List RA := [(.tmp 6)]
theorem k8 : compF Try.prog (muL []) 8 = some ⟨110, C8_1, R8⟩ := by kernel_rfl
noncomputable def X8 (r : Bool) : Cx := ⟨Try.prog, noG, 110, muL [], R8, isD (fun x => x = AV.bool r)⟩
inductive St8 where
  | p1 (t53 : Bool) (a : Arr 4 Int) (b : Arr 4 Int) (and_ : Arr 4 Int) (or_ : Arr 4 Int) (not_ : Arr 4 Int)
noncomputable def G8 : St8 → Option Bool
  | .p1 t53 a b and_ or_ not_ =>
    (if t53 = true then
      (some false)
    else
      (F31 a >>= fun r112 =>
        (F29 and_ >>= fun r138 =>
          (F29 b >>= fun r140 =>
            (F27 not_ r140 >>= fun r142 =>
              (if (decide (r138 = r142)) = true then
                (F19 or_ >>= fun r145 =>
                  (F19 a >>= fun r147 =>
                    (F19 b >>= fun r149 =>
                      (F19 and_ >>= fun r151 =>
                        (if (r145 == (IntKind.wrap .i64 ((IntKind.wrap .i64 (r147 + r149)) - r151))) = true then
                          (F19 not_ >>= fun r154 =>
                            (F19 a >>= fun r156 =>
                              (if (r154 == (IntKind.wrap .i64 (256 - r156))) = true then
                                (F15 a >>= fun r159 =>
                                  (F12 r159 >>= fun r161 =>
                                    (if (decide (r161 = a)) = true then
                                      (F31 r112 >>= fun r164 =>
                                        (if (decide (r164 = r112)) = true then
                                          (F25 r112 a >>= fun r167 =>
                                            (if (decide (r167 = a)) = true then
                                              (F29 not_ >>= fun r170 =>
                                                (some (decide (r170 = a))))
                                            else
                                              (some false)))
                                        else
                                          (some false)))
                                    else
                                      (some false))))
                              else
                                (some false))))
                        else
                          (some false))))))
              else
                (some false)))))))
def M8 (x : St8) (r : Bool) : Prop := match x with
  | .p1 t53 a b and_ or_ not_ => ∀ (tm : Fr) (st : Store) (i0 : Nat) (i1 : Nat) (i2 : Nat) (i3 : Nat) (i4 : Nat), tm 3 = .ptr i0 0 → tm 4 = .ptr i1 0 → tm 9 = .ptr i2 0 → tm 10 = .ptr i3 0 → tm 11 = .ptr i4 0 → tm 53 = AV.bool t53 → st[i0]? = some (.cells (c24 a)) → st[i1]? = some (.cells (c24 b)) → st[i2]? = some (.cells (c24 and_)) → st[i3]? = some (.cells (c24 or_)) → st[i4]? = some (.cells (c24 not_)) → i0 ≠ i1 → i0 ≠ i2 → i1 ≠ i2 → i0 ≠ i3 → i1 ≠ i3 → i2 ≠ i3 → i0 ≠ i4 → i1 ≠ i4 → i2 ≠ i4 → i3 ≠ i4 → At (X8 r) C8_18 [.seq C8_23] tm st
theorem w8 : ∀ (x : St8) (r : Bool), G8 x = some r → M8 x r := by
  intro x r hF
  cases x with
  | p1 t53 a b and_ or_ not_ =>
    dsimp only [G8] at hF
    intro tm st i0 i1 i2 i3 i4 h3 h4 h9 h10 h11 h53 o0 o1 o2 o3 o4 n0_1 n0_2 n1_2 n0_3 n1_3 n2_3 n0_4 n1_4 n2_4 n3_4
    refine at_cond (x := C8_19) (y := C8_22) h53 (fun c111 => ?_) (fun c111 => ?_)
    · have hF := ite_t c111 hF
      refine at_seq (a := C8_20) (b := C8_21) ?_
      refine at_ops (l := O8_20) ?_
      refine xo (e_mv' (v := AV.bool false) rfl) ?_
      refine ato_nil ?_
      refine atn_seq ?_
      refine at_ret ?_
      cases hF
      exact atr (rl_tmp rfl rl_nil) (isd (ds_eq rfl ds_b))
    · have hF := ite_f c111 hF
      refine at_skip ?_
      refine atn_seq ?_
      refine at_seq (a := C8_24) (b := C8_25) ?_
      refine at_ops (l := O8_24) ?_
      refine xo (e_loadN h3 o0 (LR.whole _ _) (c24_len _)) ?_
      obtain ⟨r112, g113, hF⟩ := bind_some hF
      refine xo_dfun' (d31 a _ g113) (dsl_cons (ds_eq rfl (ds_agg (c24_ds _))) dsl_nil) ?_
      refine xo_alloc (cs := c24 (Arr.rep 4 0)) rfl fun s115 i116 o117 k118 q119 => ?_
      have n120 : i0 ≠ i116 := fun e => ne_new o0 (e.trans q119)
      have n121 : i1 ≠ i116 := fun e => ne_new o1 (e.trans q119)
      have n122 : i2 ≠ i116 := fun e => ne_new o2 (e.trans q119)
      have n123 : i3 ≠ i116 := fun e => ne_new o3 (e.trans q119)
      have n124 : i4 ≠ i116 := fun e => ne_new o4 (e.trans q119)
      have o125 := keep0 k118 o0
      have o126 := keep0 k118 o1
      have o127 := keep0 k118 o2
      have o128 := keep0 k118 o3
      have o129 := keep0 k118 o4
      refine xo_store rfl o117 (LR.whole _ _) (c24_len _) rfl rfl (c24_len _) (c24_one _) fun s130 o131 k132 => ?_
      have o133 := k132 _ _ o125 n120
      have o134 := k132 _ _ o126 n121
      have o135 := k132 _ _ o127 n122
      have o136 := k132 _ _ o128 n123
      have o137 := k132 _ _ o129 n124
      refine ato_nil ?_
      refine atn_seq ?_
      refine at_seq (a := C8_26) (b := C8_27) ?_
      refine at_draw0 (q := Q8_26) (suf := S8_26) ?_
      refine xd rfl (e_loadN h9 o135 (LR.whole _ _) (c24_len _)) ?_
      obtain ⟨r138, g139, hF⟩ := bind_some hF
      refine xd_dfun' (d29 and_ _ g139) (dsl_cons (ds_eq rfl (ds_agg (c24_ds _))) dsl_nil) ?_
      refine xd rfl (e_loadN h11 o137 (LR.whole _ _) (c24_len _)) ?_
      refine xd rfl (e_loadN h4 o134 (LR.whole _ _) (c24_len _)) ?_
      obtain ⟨r140, g141, hF⟩ := bind_some hF
      refine xd_dfun' (d29 b _ g141) (dsl_cons (ds_eq rfl (ds_agg (c24_ds _))) dsl_nil) ?_
      obtain ⟨r142, g143, hF⟩ := bind_some hF
      refine xd_dfun' (d27 not_ r140 _ g143) (dsl_cons (ds_eq rfl (ds_agg (c24_ds _))) (dsl_cons (ds_eq rfl (ds_agg (c24_ds _))) dsl_nil)) ?_
      refine xd rfl (e_eqA rfl rfl (c24_eq _ _)) ?_
      refine xd rfl (e_mv' (v := AV.bool (decide (r138 = r142))) rfl) ?_
      refine bsplit (b := decide (r138 = r142)) (fun c144 => ?_) (fun c144 => ?_)
      · have hF := ite_t c144 hF
        refine xd_on rfl c144 ?_
        refine xd rfl (e_loadN h10 o136 (LR.whole _ _) (c24_len _)) ?_
        obtain ⟨r145, g146, hF⟩ := bind_some hF
        refine xd_on rfl c144 ?_
        refine xd_dfun' (d19 or_ _ g146) (dsl_cons (ds_eq rfl (ds_agg (c24_ds _))) dsl_nil) ?_
        refine xd_on rfl c144 ?_
        refine xd rfl (e_loadN h3 o133 (LR.whole _ _) (c24_len _)) ?_
        obtain ⟨r147, g148, hF⟩ := bind_some hF
        refine xd_on rfl c144 ?_
        refine xd_dfun' (d19 a _ g148) (dsl_cons (ds_eq rfl (ds_agg (c24_ds _))) dsl_nil) ?_
        refine xd_on rfl c144 ?_
        refine xd rfl (e_loadN h4 o134 (LR.whole _ _) (c24_len _)) ?_
        obtain ⟨r149, g150, hF⟩ := bind_some hF
        refine xd_on rfl c144 ?_
        refine xd_dfun' (d19 b _ g150) (dsl_cons (ds_eq rfl (ds_agg (c24_ds _))) dsl_nil) ?_
        refine xd_on rfl c144 ?_
        refine xd rfl (e_bin (v := .int .i64 (IntKind.wrap .i64 (r147 + r149))) rfl rfl rfl) ?_
        refine xd_on rfl c144 ?_
        refine xd rfl (e_loadN h9 o135 (LR.whole _ _) (c24_len _)) ?_
        obtain ⟨r151, g152, hF⟩ := bind_some hF
        refine xd_on rfl c144 ?_
        refine xd_dfun' (d19 and_ _ g152) (dsl_cons (ds_eq rfl (ds_agg (c24_ds _))) dsl_nil) ?_
        refine xd_on rfl c144 ?_
        refine xd rfl (e_bin (v := .int .i64 (IntKind.wrap .i64 ((IntKind.wrap .i64 (r147 + r149)) - r151))) rfl rfl rfl) ?_
        refine xd_on rfl c144 ?_
        refine xd rfl (e_bin (v := .bool ((r145 == (IntKind.wrap .i64 ((IntKind.wrap .i64 (r147 + r149)) - r151))))) rfl rfl rfl) ?_
        refine xd rfl (e_pick_t (v := AV.bool (r145 == (IntKind.wrap .i64 ((IntKind.wrap .i64 (r147 + r149)) - r151)))) rfl c144 rfl) ?_
        refine xd rfl (e_mv' (v := AV.bool (r145 == (IntKind.wrap .i64 ((IntKind.wrap .i64 (r147 + r149)) - r151)))) rfl) ?_
        refine bsplit (b := (r145 == (IntKind.wrap .i64 ((IntKind.wrap .i64 (r147 + r149)) - r151)))) (fun c153 => ?_) (fun c153 => ?_)
        · have hF := ite_t c153 hF
          refine xd_on rfl c153 ?_
          refine xd rfl (e_loadN h11 o137 (LR.whole _ _) (c24_len _)) ?_
          obtain ⟨r154, g155, hF⟩ := bind_some hF
          refine xd_on rfl c153 ?_
          refine xd_dfun' (d19 not_ _ g155) (dsl_cons (ds_eq rfl (ds_agg (c24_ds _))) dsl_nil) ?_
          refine xd_on rfl c153 ?_
          refine xd rfl (e_loadN h3 o133 (LR.whole _ _) (c24_len _)) ?_
          obtain ⟨r156, g157, hF⟩ := bind_some hF
          refine xd_on rfl c153 ?_
          refine xd_dfun' (d19 a _ g157) (dsl_cons (ds_eq rfl (ds_agg (c24_ds _))) dsl_nil) ?_
          refine xd_on rfl c153 ?_
          refine xd rfl (e_bin (v := .int .i64 (IntKind.wrap .i64 (256 - r156))) rfl rfl rfl) ?_
          refine xd_on rfl c153 ?_
          refine xd rfl (e_bin (v := .bool ((r154 == (IntKind.wrap .i64 (256 - r156))))) rfl rfl rfl) ?_
          refine xd rfl (e_pick_t (v := AV.bool (r154 == (IntKind.wrap .i64 (256 - r156)))) rfl c153 rfl) ?_
          refine xd rfl (e_mv' (v := AV.bool (r154 == (IntKind.wrap .i64 (256 - r156)))) rfl) ?_
          refine bsplit (b := (r154 == (IntKind.wrap .i64 (256 - r156)))) (fun c158 => ?_) (fun c158 => ?_)
          · have hF := ite_t c158 hF
            refine xd_on rfl c158 ?_
            refine xd rfl (e_loadN h3 o133 (LR.whole _ _) (c24_len _)) ?_
            obtain ⟨r159, g160, hF⟩ := bind_some hF
            refine xd_on rfl c158 ?_
            refine xd_dfun' (d15 a _ g160) (dsl_cons (ds_eq rfl (ds_agg (c24_ds _))) dsl_nil) ?_
            obtain ⟨r161, g162, hF⟩ := bind_some hF
            refine xd_on rfl c158 ?_
            refine xd_dfun' (d12 r159 _ g162) (dsl_cons (ds_eq rfl (ds_sl (fun _ => ds_i))) dsl_nil) ?_
            refine xd_on rfl c158 ?_
            refine xd rfl (e_loadN h3 o133 (LR.whole _ _) (c24_len _)) ?_
            refine xd_on rfl c158 ?_
            refine xd rfl (e_eqA rfl rfl (c24_eq _ _)) ?_
            refine xd rfl (e_pick_t (v := AV.bool (decide (r161 = a))) rfl c158 rfl) ?_
            refine xd rfl (e_mv' (v := AV.bool (decide (r161 = a))) rfl) ?_
            refine bsplit (b := decide (r161 = a)) (fun c163 => ?_) (fun c163 => ?_)
            · have hF := ite_t c163 hF
              refine xd_on rfl c163 ?_
              refine xd rfl (e_loadN rfl o131 (LR.whole _ _) (c24_len _)) ?_
              obtain ⟨r164, g165, hF⟩ := bind_some hF
              refine xd_on rfl c163 ?_
              refine xd_dfun' (d31 r112 _ g165) (dsl_cons (ds_eq rfl (ds_agg (c24_ds _))) dsl_nil) ?_
              refine xd_on rfl c163 ?_
              refine xd rfl (e_loadN rfl o131 (LR.whole _ _) (c24_len _)) ?_
              refine xd_on rfl c163 ?_
              refine xd rfl (e_eqA rfl rfl (c24_eq _ _)) ?_
              refine xd rfl (e_pick_t (v := AV.bool (decide (r164 = r112))) rfl c163 rfl) ?_
              refine xd rfl (e_mv' (v := AV.bool (decide (r164 = r112))) rfl) ?_
              refine bsplit (b := decide (r164 = r112)) (fun c166 => ?_) (fun c166 => ?_)
              · have hF := ite_t c166 hF
                refine xd_on rfl c166 ?_
                refine xd rfl (e_loadN rfl o131 (LR.whole _ _) (c24_len _)) ?_
                refine xd_on rfl c166 ?_
                refine xd rfl (e_loadN h3 o133 (LR.whole _ _) (c24_len _)) ?_
                obtain ⟨r167, g168, hF⟩ := bind_some hF
                refine xd_on rfl c166 ?_
                refine xd_dfun' (d25 r112 a _ g168) (dsl_cons (ds_eq rfl (ds_agg (c24_ds _))) (dsl_cons (ds_eq rfl (ds_agg (c24_ds _))) dsl_nil)) ?_
                refine xd_on rfl c166 ?_
                refine xd rfl (e_loadN h3 o133 (LR.whole _ _) (c24_len _)) ?_
                refine xd_on rfl c166 ?_
                refine xd rfl (e_eqA rfl rfl (c24_eq _ _)) ?_
                refine xd rfl (e_pick_t (v := AV.bool (decide (r167 = a))) rfl c166 rfl) ?_
                refine xd rfl (e_mv' (v := AV.bool (decide (r167 = a))) rfl) ?_
                refine bsplit (b := decide (r167 = a)) (fun c169 => ?_) (fun c169 => ?_)
                · have hF := ite_t c169 hF
                  refine xd_on rfl c169 ?_
                  refine xd rfl (e_loadN h11 o137 (LR.whole _ _) (c24_len _)) ?_
                  obtain ⟨r170, g171, hF⟩ := bind_some hF
                  refine xd_on rfl c169 ?_
                  refine xd_dfun' (d29 not_ _ g171) (dsl_cons (ds_eq rfl (ds_agg (c24_ds _))) dsl_nil) ?_
                  refine xd_on rfl c169 ?_
                  refine xd rfl (e_loadN h3 o133 (LR.whole _ _) (c24_len _)) ?_
                  refine xd_on rfl c169 ?_
                  refine xd rfl (e_eqA rfl rfl (c24_eq _ _)) ?_
                  refine xd rfl (e_pick_t (v := AV.bool (decide (r170 = a))) rfl c169 rfl) ?_
                  refine xd rfl (e_mv' (v := AV.bool (decide (r170 = a))) rfl) ?_
                  refine atd_nil ?_
                  refine ato_nil ?_
                  refine atn_seq ?_
                  refine at_ret ?_
                  cases hF
                  exact atr (rl_tmp rfl rl_nil) (isd (ds_eq rfl ds_b))
                · have hF := ite_f c169 hF
                  refine xd_off rfl c169 rfl ?_
                  refine xd_off rfl c169 rfl ?_
                  refine xd_off rfl c169 rfl ?_
                  refine xd_off rfl c169 rfl ?_
                  refine xd rfl (e_pick_f (v := AV.bool false) rfl c169 rfl) ?_
                  refine xd rfl (e_mv' (v := AV.bool false) rfl) ?_
                  refine atd_nil ?_
                  refine ato_nil ?_
                  refine atn_seq ?_
                  refine at_ret ?_
                  cases hF
                  exact atr (rl_tmp rfl rl_nil) (isd (ds_eq rfl ds_b))
              · have hF := ite_f c166 hF
                refine xd_off rfl c166 rfl ?_
                refine xd_off rfl c166 rfl ?_
                refine xd_off rfl c166 rfl ?_
                refine xd_off rfl c166 rfl ?_
                refine xd_off rfl c166 rfl ?_
                refine xd rfl (e_pick_f (v := AV.bool false) rfl c166 rfl) ?_
                refine xd rfl (e_mv' (v := AV.bool false) rfl) ?_
                refine xd_off rfl rfl rfl ?_
                refine xd_off rfl rfl rfl ?_
                refine xd_off rfl rfl rfl ?_
                refine xd_off rfl rfl rfl ?_
                refine xd rfl (e_pick_f (v := AV.bool false) rfl rfl rfl) ?_
                refine xd rfl (e_mv' (v := AV.bool false) rfl) ?_
                refine atd_nil ?_
                refine ato_nil ?_
                refine atn_seq ?_
                refine at_ret ?_
                cases hF
                exact atr (rl_tmp rfl rl_nil) (isd (ds_eq rfl ds_b))
            · have hF := ite_f c163 hF
              refine xd_off rfl c163 rfl ?_
              refine xd_off rfl c163 rfl ?_
              refine xd_off rfl c163 rfl ?_
              refine xd_off rfl c163 rfl ?_
              refine xd rfl (e_pick_f (v := AV.bool false) rfl c163 rfl) ?_
              refine xd rfl (e_mv' (v := AV.bool false) rfl) ?_
              refine xd_off rfl rfl rfl ?_
              refine xd_off rfl rfl rfl ?_
              refine xd_off rfl rfl rfl ?_
              refine xd_off rfl rfl rfl ?_
              refine xd_off rfl rfl rfl ?_
              refine xd rfl (e_pick_f (v := AV.bool false) rfl rfl rfl) ?_
              refine xd rfl (e_mv' (v := AV.bool false) rfl) ?_
              refine xd_off rfl rfl rfl ?_
              refine xd_off rfl rfl rfl ?_
              refine xd_off rfl rfl rfl ?_
              refine xd_off rfl rfl rfl ?_
              refine xd rfl (e_pick_f (v := AV.bool false) rfl rfl rfl) ?_
              refine xd rfl (e_mv' (v := AV.bool false) rfl) ?_
              refine atd_nil ?_
              refine ato_nil ?_
              refine atn_seq ?_
              refine at_ret ?_
              cases hF
              exact atr (rl_tmp rfl rl_nil) (isd (ds_eq rfl ds_b))
          · have hF := ite_f c158 hF
            refine xd_off rfl c158 rfl ?_
            refine xd_off rfl c158 rfl ?_
            refine xd_off rfl c158 rfl ?_
            refine xd_off rfl c158 rfl ?_
            refine xd_off rfl c158 rfl ?_
            refine xd rfl (e_pick_f (v := AV.bool false) rfl c158 rfl) ?_
            refine xd rfl (e_mv' (v := AV.bool false) rfl) ?_
            refine xd_off rfl rfl rfl ?_
            refine xd_off rfl rfl rfl ?_
            refine xd_off rfl rfl rfl ?_
            refine xd_off rfl rfl rfl ?_
            refine xd rfl (e_pick_f (v := AV.bool false) rfl rfl rfl) ?_
            refine xd rfl (e_mv' (v := AV.bool false) rfl) ?_
            refine xd_off rfl rfl rfl ?_
            refine xd_off rfl rfl rfl ?_
            refine xd_off rfl rfl rfl ?_
            refine xd_off rfl rfl rfl ?_
            refine xd_off rfl rfl rfl ?_
            refine xd rfl (e_pick_f (v := AV.bool false) rfl rfl rfl) ?_
            refine xd rfl (e_mv' (v := AV.bool false) rfl) ?_
            refine xd_off rfl rfl rfl ?_
            refine xd_off rfl rfl rfl ?_
            refine xd_off rfl rfl rfl ?_
            refine xd_off rfl rfl rfl ?_
            refine xd rfl (e_pick_f (v := AV.bool false) rfl rfl rfl) ?_
            refine xd rfl (e_mv' (v := AV.bool false) rfl) ?_
            refine atd_nil ?_
            refine ato_nil ?_
            refine atn_seq ?_
            refine at_ret ?_
            cases hF
            exact atr (rl_tmp rfl rl_nil) (isd (ds_eq rfl ds_b))
        · have hF := ite_f c153 hF
          refine xd_off rfl c153 rfl ?_
          refine xd_off rfl c153 rfl ?_
          refine xd_off rfl c153 rfl ?_
          refine xd_off rfl c153 rfl ?_
          refine xd_off rfl c153 rfl ?_
          refine xd_off rfl c153 rfl ?_
          refine xd rfl (e_pick_f (v := AV.bool false) rfl c153 rfl) ?_
          refine xd rfl (e_mv' (v := AV.bool false) rfl) ?_
          refine xd_off rfl rfl rfl ?_
          refine xd_off rfl rfl rfl ?_
          refine xd_off rfl rfl rfl ?_
          refine xd_off rfl rfl rfl ?_
          refine xd_off rfl rfl rfl ?_
          refine xd rfl (e_pick_f (v := AV.bool false) rfl rfl rfl) ?_
          refine xd rfl (e_mv' (v := AV.bool false) rfl) ?_
          refine xd_off rfl rfl rfl ?_
          refine xd_off rfl rfl rfl ?_
          refine xd_off rfl rfl rfl ?_
          refine xd_off rfl rfl rfl ?_
          refine xd rfl (e_pick_f (v := AV.bool false) rfl rfl rfl) ?_
          refine xd rfl (e_mv' (v := AV.bool false) rfl) ?_
          refine xd_off rfl rfl rfl ?_
          refine xd_off rfl rfl rfl ?_
          refine xd_off rfl rfl rfl ?_
          refine xd_off rfl rfl rfl ?_
          refine xd_off rfl rfl rfl ?_
          refine xd rfl (e_pick_f (v := AV.bool false) rfl rfl rfl) ?_
          refine xd rfl (e_mv' (v := AV.bool false) rfl) ?_
          refine xd_off rfl rfl rfl ?_
          refine xd_off rfl rfl rfl ?_
          refine xd_off rfl rfl rfl ?_
          refine xd_off rfl rfl rfl ?_
          refine xd rfl (e_pick_f (v := AV.bool false) rfl rfl rfl) ?_
          refine xd rfl (e_mv' (v := AV.bool false) rfl) ?_
          refine atd_nil ?_
          refine ato_nil ?_
          refine atn_seq ?_
          refine at_ret ?_
          cases hF
          exact atr (rl_tmp rfl rl_nil) (isd (ds_eq rfl ds_b))
      · have hF := ite_f c144 hF
        refine xd_off rfl c144 rfl ?_
        refine xd_off rfl c144 rfl ?_
        refine xd_off rfl c144 rfl ?_
        refine xd_off rfl c144 rfl ?_
        refine xd_off rfl c144 rfl ?_
        refine xd_off rfl c144 rfl ?_
        refine xd_off rfl c144 rfl ?_
        refine xd_off rfl c144 rfl ?_
        refine xd_off rfl c144 rfl ?_
        refine xd_off rfl c144 rfl ?_
        refine xd_off rfl c144 rfl ?_
        refine xd rfl (e_pick_f (v := AV.bool false) rfl c144 rfl) ?_
        refine xd rfl (e_mv' (v := AV.bool false) rfl) ?_
        refine xd_off rfl rfl rfl ?_
        refine xd_off rfl rfl rfl ?_
        refine xd_off rfl rfl rfl ?_
        refine xd_off rfl rfl rfl ?_
        refine xd_off rfl rfl rfl ?_
        refine xd_off rfl rfl rfl ?_
        refine xd rfl (e_pick_f (v := AV.bool false) rfl rfl rfl) ?_
        refine xd rfl (e_mv' (v := AV.bool false) rfl) ?_
        refine xd_off rfl rfl rfl ?_
        refine xd_off rfl rfl rfl ?_
        refine xd_off rfl rfl rfl ?_
        refine xd_off rfl rfl rfl ?_
        refine xd_off rfl rfl rfl ?_
        refine xd rfl (e_pick_f (v := AV.bool false) rfl rfl rfl) ?_
        refine xd rfl (e_mv' (v := AV.bool false) rfl) ?_
        refine xd_off rfl rfl rfl ?_
        refine xd_off rfl rfl rfl ?_
        refine xd_off rfl rfl rfl ?_
        refine xd_off rfl rfl rfl ?_
        refine xd rfl (e_pick_f (v := AV.bool false) rfl rfl rfl) ?_
        refine xd rfl (e_mv' (v := AV.bool false) rfl) ?_
        refine xd_off rfl rfl rfl ?_
        refine xd_off rfl rfl rfl ?_
        refine xd_off rfl rfl rfl ?_
        refine xd_off rfl rfl rfl ?_
        refine xd_off rfl rfl rfl ?_
        refine xd rfl (e_pick_f (v := AV.bool false) rfl rfl rfl) ?_
        refine xd rfl (e_mv' (v := AV.bool false) rfl) ?_
        refine xd_off rfl rfl rfl ?_
        refine xd_off rfl rfl rfl ?_
        refine xd_off rfl rfl rfl ?_
        refine xd_off rfl rfl rfl ?_
        refine xd rfl (e_pick_f (v := AV.bool false) rfl rfl rfl) ?_
        refine xd rfl (e_mv' (v := AV.bool false) rfl) ?_
        refine atd_nil ?_
        refine ato_nil ?_
        refine atn_seq ?_
        refine at_ret ?_
        cases hF
        exact atr (rl_tmp rfl rl_nil) (isd (ds_eq rfl ds_b))
noncomputable def F8 (a : Arr 4 Int) (b : Arr 4 Int) (c : Int) : Option Bool :=
  (F11 >>= fun r15 =>
    (if (!r15) = true then
      (some false)
    else
      (F17 a c >>= fun r18 =>
        (F17 b c >>= fun r20 =>
          (F25 a b >>= fun r30 =>
            (F27 a b >>= fun r32 =>
              (F29 a >>= fun r34 =>
                (F17 r30 c >>= fun r96 =>
                  (if r18 = true then
                    (if (!(r96 == r20)) = true then
                      (some false)
                    else
                      (F17 r32 c >>= fun r100 =>
                        (if (!(r100 == true)) = true then
                          (some false)
                        else
                          (F17 r34 c >>= fun r103 =>
                            (G8 (.p1 (r103 == r18) a b r30 r32 r34))))))
                  else
                    (if (!(r96 == false)) = true then
                      (some false)
                    else
                      (F17 r32 c >>= fun r106 =>
                        (if (!(r106 == r20)) = true then
                          (some false)
                        else
                          (F17 r34 c >>= fun r109 =>
                            (G8 (.p1 (r109 == r18) a b r30 r32 r34)))))))))))))))
theorem d8 (a : Arr 4 Int) (b : Arr 4 Int) (c : Int) (r : Bool) (hF : F8 a b c = some r) : DFun Try.prog noG 8 [AV.agg (c24 a), AV.agg (c24 b), AV.int .u8 c] (AV.bool r) := by
  unfold F8 at hF
  refine dfun_at k8 (Nat.le_of_ble_eq_true rfl) ?_
  show At (X8 r) _ _ _ _
  refine at_seq (a := C8_2) (b := C8_3) ?_
  refine at_ops (l := O8_2) ?_
  refine xo_box (cs := c24 a) rfl rfl (c24_len _) fun s2 i3 o4 k5 q6 => ?_
  refine xo_box (cs := c24 b) rfl rfl (c24_len _) fun s8 i9 o10 k11 q12 => ?_
  have n13 : i3 ≠ i9 := fun e => ne_new o4 (e.trans q12)
  have o14 := keep0 k11 o4
  refine xo (e_mv' (v := AV.bool false) rfl) ?_
  refine ato_nil ?_
  refine atn_seq ?_
  refine at_seq (a := C8_4) (b := C8_11) ?_
  refine at_seq (a := C8_5) (b := C8_6) ?_
  refine at_ops (l := O8_5) ?_
  obtain ⟨r15, g16, hF⟩ := bind_some hF
  refine xo_dfun' (d11 _ g16) dsl_nil ?_
  refine xo (e_not rfl) ?_
  refine ato_nil ?_
  refine atn_seq ?_
  refine at_cond (x := C8_7) (y := C8_10) rfl (fun c17 => ?_) (fun c17 => ?_)
  · have hF := ite_t c17 hF
    refine at_seq (a := C8_8) (b := C8_9) ?_
    refine at_ops (l := O8_8) ?_
    refine xo (e_mv' (v := AV.bool false) rfl) ?_
    refine ato_nil ?_
    refine atn_seq ?_
    refine at_ret ?_
    cases hF
    exact atr (rl_tmp rfl rl_nil) (isd (ds_eq rfl ds_b))
  · have hF := ite_f c17 hF
    refine at_skip ?_
    refine atn_seq ?_
    refine at_seq (a := C8_12) (b := C8_13) ?_
    refine at_draw0 (q := Q8_12) (suf := S8_12) ?_
    refine xd rfl (e_loadN rfl o14 (LR.whole _ _) (c24_len _)) ?_
    refine xd rfl (e_mv' (v := AV.int .u8 c) rfl) ?_
    obtain ⟨r18, g19, hF⟩ := bind_some hF
    refine xd_dfun' (d17 a c _ g19) (dsl_cons (ds_eq rfl (ds_agg (c24_ds _))) (dsl_cons (ds_eq rfl ds_i) dsl_nil)) ?_
    refine xd rfl (e_loadN rfl o10 (LR.whole _ _) (c24_len _)) ?_
    refine xd rfl (e_mv' (v := AV.int .u8 c) rfl) ?_
    obtain ⟨r20, g21, hF⟩ := bind_some hF
    refine xd_dfun' (d17 b c _ g21) (dsl_cons (ds_eq rfl (ds_agg (c24_ds _))) (dsl_cons (ds_eq rfl ds_i) dsl_nil)) ?_
    refine xd rfl (e_mv' (v := AV.bool r18) rfl) ?_
    refine xd rfl (e_mv' (v := AV.bool r20) rfl) ?_
    refine atd_nil ?_
    refine ato_nil ?_
    refine atn_seq ?_
    refine at_seq (a := C8_14) (b := C8_15) ?_
    refine at_drawn (q := Q8_14) (suf := S8_14) fun s22 k23 u24 => ?_
    have o25 := keep0 k23 o14
    have o26 := keep0 k23 o10
    have w27 := u24 0 (by decide)
    have w28 := u24 1 (by decide)
    have w29 := u24 2 (by decide)
    refine xd rfl (e_loadN rfl o14 (LR.whole _ _) (c24_len _)) ?_
    refine xd rfl (e_loadN rfl o10 (LR.whole _ _) (c24_len _)) ?_
    obtain ⟨r30, g31, hF⟩ := bind_some hF
    refine xd_dfun' (d25 a b _ g31) (dsl_cons (ds_eq rfl (ds_agg (c24_ds _))) (dsl_cons (ds_eq rfl (ds_agg (c24_ds _))) dsl_nil)) ?_
    refine xd rfl (e_loadN rfl o14 (LR.whole _ _) (c24_len _)) ?_
    refine xd rfl (e_loadN rfl o10 (LR.whole _ _) (c24_len _)) ?_
    obtain ⟨r32, g33, hF⟩ := bind_some hF
    refine xd_dfun' (d27 a b _ g33) (dsl_cons (ds_eq rfl (ds_agg (c24_ds _))) (dsl_cons (ds_eq rfl (ds_agg (c24_ds _))) dsl_nil)) ?_
    refine xd rfl (e_loadN rfl o14 (LR.whole _ _) (c24_len _)) ?_
    obtain ⟨r34, g35, hF⟩ := bind_some hF
    refine xd_dfun' (d29 a _ g35) (dsl_cons (ds_eq rfl (ds_agg (c24_ds _))) dsl_nil) ?_
    refine xd_alloc (cs := c24 (Arr.rep 4 0)) rfl w27 fun s37 i38 q41 o39 k40 => ?_
    have n42 : i3 ≠ i38 := fun e => ne_new2 o14 (e.trans q41)
    have n43 : i9 ≠ i38 := fun e => ne_new2 o10 (e.trans q41)
    have o44 := k40 _ _ o25 (ne_new2 o14)
    have o45 := k40 _ _ o26 (ne_new2 o10)
    have w46 := k40 _ _ w28 (by omega)
    have w47 := k40 _ _ w29 (by omega)
    refine xd_alloc (cs := c24 (Arr.rep 4 0)) rfl w46 fun s49 i50 q53 o51 k52 => ?_
    have n54 : i3 ≠ i50 := fun e => ne_new2 o14 (e.trans q53)
    have n55 : i9 ≠ i50 := fun e => ne_new2 o10 (e.trans q53)
    have n56 : i38 ≠ i50 := by omega
    have o57 := k52 _ _ o44 (ne_new2 o14)
    have o58 := k52 _ _ o45 (ne_new2 o10)
    have o59 := k52 _ _ o39 (by omega)
    have w60 := k52 _ _ w47 (by omega)
    refine xd_alloc (cs := c24 (Arr.rep 4 0)) rfl w60 fun s62 i63 q66 o64 k65 => ?_
    have n67 : i3 ≠ i63 := fun e => ne_new2 o14 (e.trans q66)
    have n68 : i9 ≠ i63 := fun e => ne_new2 o10 (e.trans q66)
    have n69 : i38 ≠ i63 := by omega
    have n70 : i50 ≠ i63 := by omega
    have o71 := k65 _ _ o57 (ne_new2 o14)
    have o72 := k65 _ _ o58 (ne_new2 o10)
    have o73 := k65 _ _ o59 (by omega)
    have o74 := k65 _ _ o51 (by omega)
    refine atd_nil ?_
    refine xo_store rfl o73 (LR.whole _ _) (c24_len _) rfl rfl (c24_len _) (c24_one _) fun s75 o76 k77 => ?_
    have o78 := k77 _ _ o71 n42
    have o79 := k77 _ _ o72 n43
    have o80 := k77 _ _ o74 (Ne.symm n56)
    have o81 := k77 _ _ o64 (Ne.symm n69)
    refine xo_store rfl o80 (LR.whole _ _) (c24_len _) rfl rfl (c24_len _) (c24_one _) fun s82 o83 k84 => ?_
    have o85 := k84 _ _ o78 n54
    have o86 := k84 _ _ o79 n55
    have o87 := k84 _ _ o76 n56
    have o88 := k84 _ _ o81 (Ne.symm n70)
    refine xo_store rfl o88 (LR.whole _ _) (c24_len _) rfl rfl (c24_len _) (c24_one _) fun s89 o90 k91 => ?_
    have o92 := k91 _ _ o85 n67
    have o93 := k91 _ _ o86 n68
    have o94 := k91 _ _ o87 n69
    have o95 := k91 _ _ o83 n70
    refine ato_nil ?_
    refine atn_seq ?_
    refine at_seq (a := C8_16) (b := C8_23) ?_
    refine at_seq (a := C8_17) (b := C8_18) ?_
    refine at_ops (l := O8_17) ?_
    refine xo (e_loadN rfl o94 (LR.whole _ _) (c24_len _)) ?_
    refine xo (e_mv' (v := AV.int .u8 c) rfl) ?_
    obtain ⟨r96, g97, hF⟩ := bind_some hF
    refine xo_dfun' (d17 r30 c _ g97) (dsl_cons (ds_eq rfl (ds_agg (c24_ds _))) (dsl_cons (ds_eq rfl ds_i) dsl_nil)) ?_
    refine xo (e_mv' (v := AV.bool r18) rfl) ?_
    refine xo (e_mv' (v := AV.bool r18) rfl) ?_
    refine bsplit (b := r18) (fun c98 => ?_) (fun c98 => ?_)
    · have hF := ite_t c98 hF
      refine xo_on rfl c98 ?_
      refine xo (e_mv' (v := AV.bool r20) rfl) ?_
      refine xo (e_pick_t (v := AV.bool r20) rfl c98 rfl) ?_
      refine xo (e_neB rfl rfl) ?_
      refine xo (e_mv' (v := AV.bool (!(r96 == r20))) rfl) ?_
      refine bsplit (b := (!(r96 == r20))) (fun c99 => ?_) (fun c99 => ?_)
      · have hF := ite_t c99 hF
        refine xo_off rfl c99 ?_
        refine xo_off rfl c99 ?_
        refine xo_off rfl c99 ?_
        refine xo_off rfl c99 ?_
        refine xo_off rfl c99 ?_
        refine xo_off' rfl ?_
        refine xo_off rfl c99 ?_
        refine xo_off rfl c99 ?_
        refine xo (e_pick_t (v := AV.bool true) rfl c99 rfl) ?_
        refine xo (e_mv' (v := AV.bool true) rfl) ?_
        refine xo_off rfl rfl ?_
        refine xo_off rfl rfl ?_
        refine xo_off rfl rfl ?_
        refine xo_off rfl rfl ?_
        refine xo_off rfl rfl ?_
        refine xo (e_pick_t (v := AV.bool true) rfl rfl rfl) ?_
        refine ato_nil ?_
        refine atn_seq ?_
        refine at_cond_t (x := C8_19) (y := C8_22) rfl rfl ?_
        refine at_seq (a := C8_20) (b := C8_21) ?_
        refine at_ops (l := O8_20) ?_
        refine xo (e_mv' (v := AV.bool false) rfl) ?_
        refine ato_nil ?_
        refine atn_seq ?_
        refine at_ret ?_
        cases hF
        exact atr (rl_tmp rfl rl_nil) (isd (ds_eq rfl ds_b))
      · have hF := ite_f c99 hF
        refine xo_on rfl c99 ?_
        refine xo (e_loadN rfl o95 (LR.whole _ _) (c24_len _)) ?_
        refine xo_on rfl c99 ?_
        refine xo (e_mv' (v := AV.int .u8 c) rfl) ?_
        obtain ⟨r100, g101, hF⟩ := bind_some hF
        refine xo_on rfl c99 ?_
        refine xo_dfun' (d17 r32 c _ g101) (dsl_cons (ds_eq rfl (ds_agg (c24_ds _))) (dsl_cons (ds_eq rfl ds_i) dsl_nil)) ?_
        refine xo_on rfl c99 ?_
        refine xo (e_mv' (v := AV.bool r18) rfl) ?_
        refine xo_on rfl c99 ?_
        refine xo (e_mv' (v := AV.bool r18) rfl) ?_
        refine xo_off rfl c98 ?_
        refine xo_on rfl c99 ?_
        refine xo (e_pick_t (v := AV.bool true) rfl c98 rfl) ?_
        refine xo_on rfl c99 ?_
        refine xo (e_neB rfl rfl) ?_
        refine xo (e_pick_f (v := AV.bool (!(r100 == true))) rfl c99 rfl) ?_
        refine xo (e_mv' (v := AV.bool (!(r100 == true))) rfl) ?_
        refine bsplit (b := (!(r100 == true))) (fun c102 => ?_) (fun c102 => ?_)
        · have hF := ite_t c102 hF
          refine xo_off rfl c102 ?_
          refine xo_off rfl c102 ?_
          refine xo_off rfl c102 ?_
          refine xo_off rfl c102 ?_
          refine xo_off rfl c102 ?_
          refine xo (e_pick_t (v := AV.bool true) rfl c102 rfl) ?_
          refine ato_nil ?_
          refine atn_seq ?_
          refine at_cond_t (x := C8_19) (y := C8_22) rfl rfl ?_
          refine at_seq (a := C8_20) (b := C8_21) ?_
          refine at_ops (l := O8_20) ?_
          refine xo (e_mv' (v := AV.bool false) rfl) ?_
          refine ato_nil ?_
          refine atn_seq ?_
          refine at_ret ?_
          cases hF
          exact atr (rl_tmp rfl rl_nil) (isd (ds_eq rfl ds_b))
        · have hF := ite_f c102 hF
          refine xo_on rfl c102 ?_
          refine xo (e_loadN rfl o90 (LR.whole _ _) (c24_len _)) ?_
          refine xo_on rfl c102 ?_
          refine xo (e_mv' (v := AV.int .u8 c) rfl) ?_
          obtain ⟨r103, g104, hF⟩ := bind_some hF
          refine xo_on rfl c102 ?_
          refine xo_dfun' (d17 r34 c _ g104) (dsl_cons (ds_eq rfl (ds_agg (c24_ds _))) (dsl_cons (ds_eq rfl ds_i) dsl_nil)) ?_
          refine xo_on rfl c102 ?_
          refine xo (e_mv' (v := AV.bool r18) rfl) ?_
          refine xo_on rfl c102 ?_
          refine xo (e_eqB rfl rfl) ?_
          refine xo (e_pick_f (v := AV.bool (r103 == r18)) rfl c102 rfl) ?_
          refine ato_nil ?_
          refine atn_seq ?_
          exact w8 (.p1 (r103 == r18) a b r30 r32 r34) _ hF _ _ _ _ _ _ _ rfl rfl rfl rfl rfl rfl o92 o93 o94 o95 o90 n13 n42 n43 n54 n55 n56 n67 n68 n69 n70
    · have hF := ite_f c98 hF
      refine xo_off rfl c98 ?_
      refine xo (e_pick_f (v := AV.bool false) rfl c98 rfl) ?_
      refine xo (e_neB rfl rfl) ?_
      refine xo (e_mv' (v := AV.bool (!(r96 == false))) rfl) ?_
      refine bsplit (b := (!(r96 == false))) (fun c105 => ?_) (fun c105 => ?_)
      · have hF := ite_t c105 hF
        refine xo_off rfl c105 ?_
        refine xo_off rfl c105 ?_
        refine xo_off rfl c105 ?_
        refine xo_off rfl c105 ?_
        refine xo_off rfl c105 ?_
        refine xo_off' rfl ?_
        refine xo_off rfl c105 ?_
        refine xo_off rfl c105 ?_
        refine xo (e_pick_t (v := AV.bool true) rfl c105 rfl) ?_
        refine xo (e_mv' (v := AV.bool true) rfl) ?_
        refine xo_off rfl rfl ?_
        refine xo_off rfl rfl ?_
        refine xo_off rfl rfl ?_
        refine xo_off rfl rfl ?_
        refine xo_off rfl rfl ?_
        refine xo (e_pick_t (v := AV.bool true) rfl rfl rfl) ?_
        refine ato_nil ?_
        refine atn_seq ?_
        refine at_cond_t (x := C8_19) (y := C8_22) rfl rfl ?_
        refine at_seq (a := C8_20) (b := C8_21) ?_
        refine at_ops (l := O8_20) ?_
        refine xo (e_mv' (v := AV.bool false) rfl) ?_
        refine ato_nil ?_
        refine atn_seq ?_
        refine at_ret ?_
        cases hF
        exact atr (rl_tmp rfl rl_nil) (isd (ds_eq rfl ds_b))
      · have hF := ite_f c105 hF
        refine xo_on rfl c105 ?_
        refine xo (e_loadN rfl o95 (LR.whole _ _) (c24_len _)) ?_
        refine xo_on rfl c105 ?_
        refine xo (e_mv' (v := AV.int .u8 c) rfl) ?_
        obtain ⟨r106, g107, hF⟩ := bind_some hF
        refine xo_on rfl c105 ?_
        refine xo_dfun' (d17 r32 c _ g107) (dsl_cons (ds_eq rfl (ds_agg (c24_ds _))) (dsl_cons (ds_eq rfl ds_i) dsl_nil)) ?_
        refine xo_on rfl c105 ?_
        refine xo (e_mv' (v := AV.bool r18) rfl) ?_
        refine xo_on rfl c105 ?_
        refine xo (e_mv' (v := AV.bool r18) rfl) ?_
        refine xo_on rfl c98 ?_
        refine xo (e_mv' (v := AV.bool r20) rfl) ?_
        refine xo_on rfl c105 ?_
        refine xo (e_pick_f (v := AV.bool r20) rfl c98 rfl) ?_
        refine xo_on rfl c105 ?_
        refine xo (e_neB rfl rfl) ?_
        refine xo (e_pick_f (v := AV.bool (!(r106 == r20))) rfl c105 rfl) ?_
        refine xo (e_mv' (v := AV.bool (!(r106 == r20))) rfl) ?_
        refine bsplit (b := (!(r106 == r20))) (fun c108 => ?_) (fun c108 => ?_)
        · have hF := ite_t c108 hF
          refine xo_off rfl c108 ?_
          refine xo_off rfl c108 ?_
          refine xo_off rfl c108 ?_
          refine xo_off rfl c108 ?_
          refine xo_off rfl c108 ?_
          refine xo (e_pick_t (v := AV.bool true) rfl c108 rfl) ?_
          refine ato_nil ?_
          refine atn_seq ?_
          refine at_cond_t (x := C8_19) (y := C8_22) rfl rfl ?_
          refine at_seq (a := C8_20) (b := C8_21) ?_
          refine at_ops (l := O8_20) ?_
          refine xo (e_mv' (v := AV.bool false) rfl) ?_
          refine ato_nil ?_
          refine atn_seq ?_
          refine at_ret ?_
          cases hF
          exact atr (rl_tmp rfl rl_nil) (isd (ds_eq rfl ds_b))
        · have hF := ite_f c108 hF
          refine xo_on rfl c108 ?_
          refine xo (e_loadN rfl o90 (LR.whole _ _) (c24_len _)) ?_
          refine xo_on rfl c108 ?_
          refine xo (e_mv' (v := AV.int .u8 c) rfl) ?_
          obtain ⟨r109, g110, hF⟩ := bind_some hF
          refine xo_on rfl c108 ?_
          refine xo_dfun' (d17 r34 c _ g110) (dsl_cons (ds_eq rfl (ds_agg (c24_ds _))) (dsl_cons (ds_eq rfl ds_i) dsl_nil)) ?_
          refine xo_on rfl c108 ?_
          refine xo (e_mv' (v := AV.bool r18) rfl) ?_
          refine xo_on rfl c108 ?_
          refine xo (e_eqB rfl rfl) ?_
          refine xo (e_pick_f (v := AV.bool (r109 == r18)) rfl c108 rfl) ?_
          refine ato_nil ?_
          refine atn_seq ?_
          exact w8 (.p1 (r109 == r18) a b r30 r32 r34) _ hF _ _ _ _ _ _ _ rfl rfl rfl rfl rfl rfl o92 o93 o94 o95 o90 n13 n42 n43 n54 n55 n56 n67 n68 n69 n70
end Go.Proofs.Ytfjdegohjnejkaa
