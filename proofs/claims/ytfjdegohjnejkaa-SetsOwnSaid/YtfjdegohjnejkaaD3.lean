/-
  Functions of the program's as plain functions.
-/
import Derived.Test.YtfjdegohjnejkaaD2
set_option linter.unusedVariables false
set_option maxRecDepth 4000
set_option maxHeartbeats 4000000
namespace Go.Proofs.Ytfjdegohjnejkaa
open Go AW
attribute [local irreducible] W WD SH XS XLoop DFun XCall
/-! ### 24: paddock/sets.Print -/
def C24_11 : ACode := .s (.ops [q 3 (.mv (.c (.str [94])))]) (.ops [q 20 (.loadN 4 1), qc 21 29 [20], q0 (.store 4 1 21)])
def C24_10 : ACode := .cond 19 C24_11 .skip
def C24_25 : ACode := .cond 27 .skip (.exit 0)
def C24_34 : ACode := .s (.s (.draw [] 0 0 [q 29 (.mv 7), q 30 (.binI .add 29 (ki 1)), q 31 (.mv 5), q 32 (.len 31), q 33 (.binI .lss 30 32), q 34 (.mv 33), (q 35 (.mv 5)).y 34, (q 36 (.mv 7)).y 34, (q 37 (.binI .add 36 (ki 1))).y 34, (q 38 (.iaddrL 1 35 37)).y 34, (q 39 (.load1 38)).y 34, (q 40 (.mv 5)).y 34, (q 41 (.mv 7)).y 34, (q 42 (.iaddrL 1 40 41)).y 34, (q 43 (.load1 42)).y 34, (q 44 (.binI .add 43 (ku 1))).y 34, (q 45 (.binI .eql 39 44)).y 34, q 46 (.pick 34 45 (.c (.bool false)))] []) (.cond 46 .skip (.exit 2))) (.block 3 (.ops [q 47 (.mv 7), q 48 (.binI .add 47 (ki 1)), q 7 (.mv 48)]))
def C24_42 : ACode := .s (.s (.ops [q 49 (.mv 7), q 50 (.mv 6), q 51 (.binI .sub 49 50)]) (.block 4 (.s (.ops [q 67 (.binI .eql 51 (ki 0)), q 66 (.mv 67)]) (.cond 66 (.ops [q 68 (.mv 3), q 69 (.mv 5), q 70 (.mv 6), q 71 (.iaddrL 1 69 70), q 72 (.load1 71), qc 73 41 [72], q 74 (.binS .add 68 73), q 3 (.mv 74)]) (.s (.ops [q 76 (.binI .eql 51 (ki 1)), q 75 (.mv 76)]) (.cond 75 (.draw [] 0 0 [q 77 (.mv 3), q 78 (.mv 5), q 79 (.mv 6), q 80 (.iaddrL 1 78 79), q 81 (.load1 80), qc 82 41 [81], q 83 (.mv 5), q 84 (.mv 7), q 85 (.iaddrL 1 83 84), q 86 (.load1 85), qc 87 41 [86], q 88 (.binS .add 82 87), q 89 (.binS .add 77 88), q 3 (.mv 89)] []) (.draw [] 0 0 [q 52 (.mv 3), q 53 (.mv 5), q 54 (.mv 6), q 55 (.iaddrL 1 53 54), q 56 (.load1 55), qc 57 41 [56], q 58 (.binS .add 57 (.c (.str [45]))), q 59 (.mv 5), q 60 (.mv 7), q 61 (.iaddrL 1 59 60), q 62 (.load1 61), qc 63 41 [62], q 64 (.binS .add 58 63), q 65 (.binS .add 52 64), q 3 (.mv 65)] []))))))) (.ops [q 90 (.mv 7), q 91 (.binI .add 90 (ki 1)), q 6 (.mv 91)])
def C24_29 : ACode := .s (.ops [q 28 (.mv 6), q 7 (.mv 28)]) (.s (.block 2 (.loop C24_34)) C24_42)
def C24_22 : ACode := .s (.s (.ops [q 24 (.mv 6), q 25 (.mv 5), q 26 (.len 25), q 27 (.binI .lss 24 26)]) C24_25) (.block 1 C24_29)
def C24_56 : ACode := .s (.ops [q 92 (.mv 3), q 93 (.binS .add 92 (.c (.str [93]))), q 2 (.mv 93)]) .ret
def C24_15 : ACode := .s (.ops [q 22 (.loadN 4 1), qc 23 15 [22], q 5 (.mv 23)]) (.s (.s (.ops [q 6 (.mv (ki 0))]) (.block 0 (.loop C24_22))) C24_56)
def C24_1 : ACode := .s (.ops [q 1 (.box 4 0), q 2 (.mv (.c (.str [])))]) (.s (.ops [q 3 (.mv (.c (.str [])))]) (.s (.ops [q 8 (.loadN 4 1), qc 9 19 [8], q 4 (.mv 9)]) (.s (.s (.ops [q 10 (.mv 4), q 11 (.binI .gtr 10 (ki 128)), q 12 (.mv 11), (q 13 (.mv 4)).y 12, (q 14 (.binI .lss 13 (ki 256))).y 12, q 15 (.pick 12 14 (.c (.bool false))), q 16 (.mv 15), (q 17 (.mv 4)).n 16, (q 18 (.binI .eql 17 (ki 0))).n 16, q 19 (.pick 16 (.c (.bool true)) 18)]) C24_10) C24_15)))
def R24 : List RA := [(.tmp 2)]
theorem k24 : compF Try.prog (muL []) 24 = some ⟨94, C24_1, R24⟩ := by kernel_rfl
noncomputable abbrev X24 (r : Str) : Cx := cD Try.prog noG 94 R24 (AV.str r)
inductive St24 where
 | p1 (s : Arr 4 Int)
 | p2 (out : Str) (t19_ : Bool) (s : Arr 4 Int)
 | p3 (out : Str) (s : Arr 4 Int)
 | p4 (out : Str) (b : Sl Int) (i : Int)
 | p5 (out : Str) (b : Sl Int) (i : Int) (k : Int)
 | p6 (out : Str) (b : Sl Int) (i : Int) (k : Int)
noncomputable def G24 : St24 → Option Str
 | .p1 s =>
  (F29 s >>= fun r_6 =>
   (G24 (.p3 ([94] : Str) r_6)))
 | .p2 out t19_ s =>
  (if t19_ = true then
   (G24 (.p1 s))
  else
   (G24 (.p3 out s)))
 | .p3 out s =>
  (F15 s >>= fun r_9 =>
   (G24 (.p4 out r_9 0)))
 | .p4 out b i =>
  (if (decide (i < ((ls b).length : Int))) = true then
   (G24 (.p5 out b i i))
  else
   (if (out).length + (([93] : Str)).length ≤ 9223372036854775807 then
    (some (out ++ ([93] : Str)))
   else none))
 | .p5 out b i k =>
  (if (decide ((IntKind.wrap .i64 (k + 1)) < ((ls b).length : Int))) = true then
   (ix (ls b) (IntKind.wrap .i64 (k + 1)) >>= fun v_14 =>
    (ix (ls b) k >>= fun v_16 =>
     (if (v_14 == (IntKind.wrap .u8 (v_16 + 1))) = true then
      (G24 (.p5 out b i (IntKind.wrap .i64 (k + 1))))
     else
      (G24 (.p6 out b i k)))))
  else
   (G24 (.p6 out b i k)))
 | .p6 out b i k =>
  (if ((IntKind.wrap .i64 (k - i)) == 0) = true then
   (ix (ls b) i >>= fun v_20 =>
    (F41 v_20 >>= fun r_22 =>
     (if (out).length + (r_22).length ≤ 9223372036854775807 then
      (G24 (.p4 (out ++ r_22) b (IntKind.wrap .i64 (k + 1))))
     else none)))
  else
   (if ((IntKind.wrap .i64 (k - i)) == 1) = true then
    (ix (ls b) i >>= fun v_26 =>
     (F41 v_26 >>= fun r_28 =>
      (ix (ls b) k >>= fun v_30 =>
       (F41 v_30 >>= fun r_32 =>
        (if (r_28).length + (r_32).length ≤ 9223372036854775807 then
         (if (out).length + (r_28 ++ r_32).length ≤ 9223372036854775807 then
          (G24 (.p4 (out ++ (r_28 ++ r_32)) b (IntKind.wrap .i64 (k + 1))))
         else none)
        else none)))))
   else
    (ix (ls b) i >>= fun v_36 =>
     (F41 v_36 >>= fun r_38 =>
      (if (r_38).length + (([45] : Str)).length ≤ 9223372036854775807 then
       (ix (ls b) k >>= fun v_41 =>
        (F41 v_41 >>= fun r_43 =>
         (if (r_38 ++ ([45] : Str)).length + (r_43).length ≤ 9223372036854775807 then
          (if (out).length + ((r_38 ++ ([45] : Str)) ++ r_43).length ≤ 9223372036854775807 then
           (G24 (.p4 (out ++ ((r_38 ++ ([45] : Str)) ++ r_43)) b (IntKind.wrap .i64 (k + 1))))
          else none)
         else none)))
      else none)))))
 partial_fixpoint
def M24 (x : St24) (r : Str) : Prop := match x with
 | .p1 s => ∀ (tm : Fr) (st : Store) (io0 : Nat), Frm tm [(1, .ptr io0 0)] → SH st [pt io0 (.cells (c24 s))] → W (X24 r) [.code C24_11, .code C24_15] tm st
 | .p2 out t19_ s => ∀ (tm : Fr) (st : Store) (io0 : Nat), Frm tm [(1, .ptr io0 0), (3, AV.str out), (19, AV.bool t19_)] → SH st [pt io0 (.cells (c24 s))] → W (X24 r) [.code C24_10, .code C24_15] tm st
 | .p3 out s => ∀ (tm : Fr) (st : Store) (io0 : Nat), Frm tm [(1, .ptr io0 0), (3, AV.str out)] → SH st [pt io0 (.cells (c24 s))] → W (X24 r) [.code C24_15] tm st
 | .p4 out b i => ∀ (tm : Fr) (st : Store), Frm tm [(3, AV.str out), (5, slV 1 (AV.int .u8) b), (6, AV.int .i64 i)] → SH st [] → W (X24 r) [.lp C24_22, .blk 0, .code C24_56] tm st
 | .p5 out b i k => ∀ (tm : Fr) (st : Store), Frm tm [(3, AV.str out), (5, slV 1 (AV.int .u8) b), (6, AV.int .i64 i), (7, AV.int .i64 k)] → SH st [] → W (X24 r) [.lp C24_34, .blk 2, .code C24_42, .blk 1, .lp C24_22, .blk 0, .code C24_56] tm st
 | .p6 out b i k => ∀ (tm : Fr) (st : Store), Frm tm [(3, AV.str out), (5, slV 1 (AV.int .u8) b), (6, AV.int .i64 i), (7, AV.int .i64 k)] → SH st [] → W (X24 r) [.code C24_42, .blk 1, .lp C24_22, .blk 0, .code C24_56] tm st
theorem w24 : ∀ (x : St24) (r : Str), G24 x = some r → M24 x r := by
 refine G24.partial_correctness M24 ?_
 intro g ih x r hF
 cases x with
 | p1 s =>
  dsimp only at hF
  intro tm st io0 hf hs
  refine en hf ?_
  refine rn 1 rfl ?_
  refine W.o (lN (s := c24 s) rfl (hs.g 0 rfl) rfl rfl) ?_
  obtain ⟨r_6, g_7, hF⟩ := bind_some hF
  refine df (d29 s _ g_7) rfl ?_
  refine sr hs 0 rfl rfl rfl (cs' := c24 r_6) rfl rfl fun st hs => ?_
  refine rj 0 1 rfl ?_
  exact ih (.p3 ([94] : Str) r_6) _ hF _ _ io0 ⟨rfl, rfl, trivial⟩ hs
 | p2 out t19_ s =>
  dsimp only at hF
  intro tm st io0 hf hs
  refine en hf ?_
  refine ci hF rfl (fun c_8 hF => ?_) (fun c_8 hF => ?_)
  · exact ih (.p1 s) _ hF _ _ io0 ⟨rfl, trivial⟩ hs
  · refine rj 0 1 rfl ?_
    exact ih (.p3 out s) _ hF _ _ io0 ⟨rfl, rfl, trivial⟩ hs
 | p3 out s =>
  dsimp only at hF
  intro tm st io0 hf hs
  refine en hf ?_
  refine rn 0 rfl ?_
  refine W.o (lN (s := c24 s) rfl (hs.g 0 rfl) rfl rfl) ?_
  obtain ⟨r_9, g_10, hF⟩ := bind_some hF
  refine df (dfun_own (fun st L K hs hK => d15 s _ g_10 K L st hs hK)) rfl ?_
  refine rn 2 rfl ?_
  exact ih (.p4 out r_9 0) _ hF _ _ ⟨rfl, rfl, rfl, trivial⟩ (hs.p 1 [] rfl)
 | p4 out b i =>
  dsimp only at hF
  intro tm st hf hs
  refine en hf ?_
  refine lp ?_
  refine rn 2 rfl ?_
  refine W.o (e_len (rd_V rfl)) ?_
  refine rn 1 rfl ?_
  refine ci hF rfl (fun c_11 hF => ?_) (fun c_11 hF => ?_)
  · refine rn 2 rfl ?_
    exact ih (.p5 out b i i) _ hF _ _ ⟨rfl, rfl, rfl, rfl, trivial⟩ hs
  · obtain ⟨g_12, hF⟩ := grd_some hF
    refine rn 1 rfl ?_
    refine W.o (e_str rfl rfl (op_cat _ _ g_12)) ?_
    refine rn 1 rfl ?_
    cases hF
    exact rD (rlt rl0) rfl
 | p5 out b i k =>
  dsimp only at hF
  intro tm st hf hs
  refine en hf ?_
  refine lp ?_
  refine rn 0 rfl ?_
  have h0 := hs
  refine dr0 ?_
  refine dn 3 rfl ?_
  refine de rfl (e_len (rd_V rfl)) ?_
  refine dn 2 rfl ?_
  refine bi hF (fun c_13 hF => ?_) (fun c_13 hF => ?_)
  · refine dfx 34 rfl c_13 ?_
    obtain ⟨v_14, g_15, hF⟩ := bind_some hF
    refine dn 3 rfl ?_
    refine don rfl rfl ?_
    refine de rfl (e_iaddrL (rd_V rfl) rfl g_15) ?_
    refine don rfl rfl ?_
    refine de rfl (l1D rfl rfl) ?_
    obtain ⟨v_16, g_17, hF⟩ := bind_some hF
    refine dn 2 rfl ?_
    refine don rfl rfl ?_
    refine de rfl (e_iaddrL (rd_V rfl) rfl g_17) ?_
    refine don rfl rfl ?_
    refine de rfl (l1D rfl rfl) ?_
    refine dn 3 rfl ?_
    refine dz ?_
    refine rn 0 rfl ?_
    refine ci hF rfl (fun c_18 hF => ?_) (fun c_18 hF => ?_)
    · refine rn 3 rfl ?_
      exact ih (.p5 out b i (IntKind.wrap .i64 (k + 1))) _ hF _ _ ⟨rfl, rfl, rfl, rfl, trivial⟩ hs
    · refine rj 0 1 rfl ?_
      exact ih (.p6 out b i k) _ hF _ _ ⟨rfl, rfl, rfl, rfl, trivial⟩ hs
  · refine dfx 34 rfl c_13 ?_
    refine dn 12 rfl ?_
    refine dz ?_
    refine rn 0 rfl ?_
    refine cf rfl rfl ?_
    refine rj 0 1 rfl ?_
    exact ih (.p6 out b i k) _ hF _ _ ⟨rfl, rfl, rfl, rfl, trivial⟩ hs
 | p6 out b i k =>
  dsimp only at hF
  intro tm st hf hs
  refine en hf ?_
  refine rn 5 rfl ?_
  refine ci hF rfl (fun c_19 hF => ?_) (fun c_19 hF => ?_)
  · obtain ⟨v_20, g_21, hF⟩ := bind_some hF
    refine rn 3 rfl ?_
    refine W.o (e_iaddrL (rd_V rfl) rfl g_21) ?_
    refine W.o (l1D rfl rfl) ?_
    obtain ⟨r_22, g_23, hF⟩ := bind_some hF
    refine df (d41 v_20 _ g_23) rfl ?_
    obtain ⟨g_24, hF⟩ := grd_some hF
    refine W.o (e_str rfl rfl (op_cat _ _ g_24)) ?_
    refine rn 4 rfl ?_
    exact ih (.p4 (out ++ r_22) b (IntKind.wrap .i64 (k + 1))) _ hF _ _ ⟨rfl, rfl, rfl, trivial⟩ hs
  · refine rn 2 rfl ?_
    refine ci hF rfl (fun c_25 hF => ?_) (fun c_25 hF => ?_)
    · have h0 := hs
      refine dr0 ?_
      obtain ⟨v_26, g_27, hF⟩ := bind_some hF
      refine dn 3 rfl ?_
      refine de rfl (e_iaddrL (rd_V rfl) rfl g_27) ?_
      refine de rfl (l1D rfl rfl) ?_
      obtain ⟨r_28, g_29, hF⟩ := bind_some hF
      refine ddf (d41 v_26 _ g_29) rfl ?_
      obtain ⟨v_30, g_31, hF⟩ := bind_some hF
      refine dn 2 rfl ?_
      refine de rfl (e_iaddrL (rd_V rfl) rfl g_31) ?_
      refine de rfl (l1D rfl rfl) ?_
      obtain ⟨r_32, g_33, hF⟩ := bind_some hF
      refine ddf (d41 v_30 _ g_33) rfl ?_
      obtain ⟨g_34, hF⟩ := grd_some hF
      refine de rfl (e_str rfl rfl (op_cat _ _ g_34)) ?_
      obtain ⟨g_35, hF⟩ := grd_some hF
      refine de rfl (e_str rfl rfl (op_cat _ _ g_35)) ?_
      refine dn 1 rfl ?_
      refine dz ?_
      refine rn 3 rfl ?_
      exact ih (.p4 (out ++ (r_28 ++ r_32)) b (IntKind.wrap .i64 (k + 1))) _ hF _ _ ⟨rfl, rfl, rfl, trivial⟩ hs
    · have h0 := hs
      refine dr0 ?_
      obtain ⟨v_36, g_37, hF⟩ := bind_some hF
      refine dn 3 rfl ?_
      refine de rfl (e_iaddrL (rd_V rfl) rfl g_37) ?_
      refine de rfl (l1D rfl rfl) ?_
      obtain ⟨r_38, g_39, hF⟩ := bind_some hF
      refine ddf (d41 v_36 _ g_39) rfl ?_
      obtain ⟨g_40, hF⟩ := grd_some hF
      refine de rfl (e_str rfl rfl (op_cat _ _ g_40)) ?_
      obtain ⟨v_41, g_42, hF⟩ := bind_some hF
      refine dn 2 rfl ?_
      refine de rfl (e_iaddrL (rd_V rfl) rfl g_42) ?_
      refine de rfl (l1D rfl rfl) ?_
      obtain ⟨r_43, g_44, hF⟩ := bind_some hF
      refine ddf (d41 v_41 _ g_44) rfl ?_
      obtain ⟨g_45, hF⟩ := grd_some hF
      refine de rfl (e_str rfl rfl (op_cat _ _ g_45)) ?_
      obtain ⟨g_46, hF⟩ := grd_some hF
      refine de rfl (e_str rfl rfl (op_cat _ _ g_46)) ?_
      refine dn 1 rfl ?_
      refine dz ?_
      refine rn 3 rfl ?_
      exact ih (.p4 (out ++ ((r_38 ++ ([45] : Str)) ++ r_43)) b (IntKind.wrap .i64 (k + 1))) _ hF _ _ ⟨rfl, rfl, rfl, trivial⟩ hs
noncomputable def F24 (s : Arr 4 Int) : Option Str :=
 (F19 s >>= fun r_2 =>
  (if (decide (r_2 > 128)) = true then
   (if (decide (r_2 < 256)) = true then
    (G24 (.p1 s))
   else
    (G24 (.p2 ([] : Str) (r_2 == 0) s)))
  else
   (G24 (.p2 ([] : Str) (r_2 == 0) s))))
theorem d24 (s : Arr 4 Int) (r : Str) (hF : F24 s = some r) : DFun Try.prog noG 24 [v24 s] (AV.str r) := by
 unfold F24 at hF
 refine bD k24 rfl ?_
 have hs : SH [] [] := SH.nil
 generalize ([] : Store) = st at hs ⊢
 refine rn 0 rfl ?_
 refine bx hs (cs := c24 s) rfl rfl fun st b_1 hs => ?_
 refine rn 2 rfl ?_
 refine W.o (lN (s := c24 s) rfl (hs.g 0 rfl) rfl rfl) ?_
 obtain ⟨r_2, g_3, hF⟩ := bind_some hF
 refine df (d19 s _ g_3) rfl ?_
 refine rn 4 rfl ?_
 refine bi hF (fun c_4 hF => ?_) (fun c_4 hF => ?_)
 · refine wfx 12 rfl c_4 ?_
   refine rn 4 rfl ?_
   refine bi hF (fun c_5 hF => ?_) (fun c_5 hF => ?_)
   · refine wfx 16 rfl c_5 ?_
     refine rn 3 rfl ?_
     refine ct rfl rfl ?_
     exact w24 (.p1 s) _ hF _ _ b_1 ⟨rfl, trivial⟩ hs
   · refine wfx 16 rfl c_5 ?_
     refine rj 3 1 rfl ?_
     exact w24 (.p2 ([] : Str) (r_2 == 0) s) _ hF _ _ b_1 ⟨rfl, rfl, rfl, trivial⟩ hs
 · refine wfx 12 rfl c_4 ?_
   refine rj 7 1 rfl ?_
   exact w24 (.p2 ([] : Str) (r_2 == 0) s) _ hF _ _ b_1 ⟨rfl, rfl, rfl, trivial⟩ hs
/-! ### 33: paddock/paddockref07.Print -/
def C33_11 : ACode := .s (.ops [q 3 (.mv (.c (.str [94])))]) (.ops [q 20 (.loadN 4 1), qc 21 30 [20], q0 (.store 4 1 21)])
def C33_10 : ACode := .cond 19 C33_11 .skip
def C33_39 : ACode := .s (.s (.ops [q 32 (.mv 5), q 33 (.binI .lss 32 (ki 255)), q 34 (.mv 33), (q 35 (.loadN 4 1)).y 34, (q 36 (.mv 5)).y 34, (q 37 (.binI .add 36 (ki 1))).y 34, (q 38 (.cvI .u8 37)).y 34, (qc 39 18 [35, 38]).y 34, q 40 (.pick 34 39 (.c (.bool false)))]) (.cond 40 .skip (.exit 2))) (.block 3 (.ops [q 41 (.mv 5), q 42 (.binI .add 41 (ki 1)), q 5 (.mv 42)]))
def C33_55 : ACode := .s (.ops [q 54 (.mv 5), q 55 (.mv 6), q 56 (.binI .gtr 54 55)]) (.cond 56 (.ops [q 57 (.mv 3), q 58 (.mv 5), q 59 (.cvI .u8 58), qc 60 43 [59], q 61 (.binS .add 57 60), q 3 (.mv 61)]) .skip)
def C33_47 : ACode := .s (.ops [q 43 (.mv 3), q 44 (.mv 6), q 45 (.cvI .u8 44), qc 46 43 [45], q 47 (.binS .add 43 46), q 3 (.mv 47)]) (.s (.s (.ops [q 48 (.mv 5), q 49 (.mv 6), q 50 (.binI .add 49 (ki 1)), q 51 (.binI .gtr 48 50)]) (.cond 51 (.ops [q 52 (.mv 3), q 53 (.binS .add 52 (.c (.str [45]))), q 3 (.mv 53)]) .skip)) C33_55)
def C33_28 : ACode := .s (.s (.ops [q 26 (.loadN 4 1), q 27 (.mv 5), q 28 (.cvI .u8 27), qc 29 18 [26, 28], q 30 (.un .not 29)]) (.cond 30 (.exit 1) .skip)) (.s (.ops [q 31 (.mv 5), q 6 (.mv 31)]) (.s (.block 2 (.loop C33_39)) C33_47))
def C33_60 : ACode := .ops [q 24 (.mv 5), q 25 (.binI .add 24 (ki 1)), q 5 (.mv 25)]
def C33_20 : ACode := .s (.s (.ops [q 22 (.mv 5), q 23 (.binI .lss 22 (ki 256))]) (.cond 23 .skip (.exit 0))) (.s (.block 1 C33_28) C33_60)
def C33_61 : ACode := .s (.ops [q 62 (.mv 3), q 63 (.binS .add 62 (.c (.str [93]))), q 2 (.mv 63)]) .ret
def C33_15 : ACode := .s (.s (.ops [q 5 (.mv (ki 0))]) (.block 0 (.loop C33_20))) C33_61
def C33_1 : ACode := .s (.ops [q 1 (.box 4 0), q 2 (.mv (.c (.str [])))]) (.s (.ops [q 3 (.mv (.c (.str [])))]) (.s (.ops [q 7 (.loadN 4 1), qc 8 16 [7], q 9 (.len 8), q 4 (.mv 9)]) (.s (.s (.ops [q 10 (.mv 4), q 11 (.binI .gtr 10 (ki 128)), q 12 (.mv 11), (q 13 (.mv 4)).y 12, (q 14 (.binI .lss 13 (ki 256))).y 12, q 15 (.pick 12 14 (.c (.bool false))), q 16 (.mv 15), (q 17 (.mv 4)).n 16, (q 18 (.binI .eql 17 (ki 0))).n 16, q 19 (.pick 16 (.c (.bool true)) 18)]) C33_10) C33_15)))
def R33 : List RA := [(.tmp 2)]
theorem k33 : compF Try.prog (muL []) 33 = some ⟨64, C33_1, R33⟩ := by kernel_rfl
noncomputable abbrev X33 (r : Str) : Cx := cD Try.prog noG 64 R33 (AV.str r)
inductive St33 where
 | p1 (s : Arr 4 Int)
 | p2 (out : Str) (t19_ : Bool) (s : Arr 4 Int)
 | p3 (out : Str) (s : Arr 4 Int)
 | p4 (out : Str) (c : Int) (s : Arr 4 Int)
 | p5 (out : Str) (c : Int) (from_ : Int) (s : Arr 4 Int)
 | p6 (out : Str) (c : Int) (from_ : Int) (s : Arr 4 Int)
 | p7 (out : Str) (c : Int) (from_ : Int) (s : Arr 4 Int)
noncomputable def G33 : St33 → Option Str
 | .p1 s =>
  (F30 s >>= fun r_6 =>
   (G33 (.p3 ([94] : Str) r_6)))
 | .p2 out t19_ s =>
  (if t19_ = true then
   (G33 (.p1 s))
  else
   (G33 (.p3 out s)))
 | .p3 out s =>
  (G33 (.p4 out 0 s))
 | .p4 out c s =>
  (if (decide (c < 256)) = true then
   (F18 s (IntKind.wrap .u8 c) >>= fun r_10 =>
    (if (!r_10) = true then
     (G33 (.p4 out (IntKind.wrap .i64 (c + 1)) s))
    else
     (G33 (.p5 out c c s))))
  else
   (if (out).length + (([93] : Str)).length ≤ 9223372036854775807 then
    (some (out ++ ([93] : Str)))
   else none))
 | .p5 out c from_ s =>
  (if (decide (c < 255)) = true then
   (F18 s (IntKind.wrap .u8 (IntKind.wrap .i64 (c + 1))) >>= fun r_15 =>
    (if r_15 = true then
     (G33 (.p5 out (IntKind.wrap .i64 (c + 1)) from_ s))
    else
     (G33 (.p6 out c from_ s))))
  else
   (G33 (.p6 out c from_ s)))
 | .p6 out c from_ s =>
  (F43 (IntKind.wrap .u8 from_) >>= fun r_18 =>
   (if (out).length + (r_18).length ≤ 9223372036854775807 then
    (if (decide (c > (IntKind.wrap .i64 (from_ + 1)))) = true then
     (if (out ++ r_18).length + (([45] : Str)).length ≤ 9223372036854775807 then
      (G33 (.p7 ((out ++ r_18) ++ ([45] : Str)) c from_ s))
     else none)
    else
     (G33 (.p7 (out ++ r_18) c from_ s)))
   else none))
 | .p7 out c from_ s =>
  (if (decide (c > from_)) = true then
   (F43 (IntKind.wrap .u8 c) >>= fun r_24 =>
    (if (out).length + (r_24).length ≤ 9223372036854775807 then
     (G33 (.p4 (out ++ r_24) (IntKind.wrap .i64 (c + 1)) s))
    else none))
  else
   (G33 (.p4 out (IntKind.wrap .i64 (c + 1)) s)))
 partial_fixpoint
def M33 (x : St33) (r : Str) : Prop := match x with
 | .p1 s => ∀ (tm : Fr) (st : Store) (io0 : Nat), Frm tm [(1, .ptr io0 0)] → SH st [pt io0 (.cells (c24 s))] → W (X33 r) [.code C33_11, .code C33_15] tm st
 | .p2 out t19_ s => ∀ (tm : Fr) (st : Store) (io0 : Nat), Frm tm [(1, .ptr io0 0), (3, AV.str out), (19, AV.bool t19_)] → SH st [pt io0 (.cells (c24 s))] → W (X33 r) [.code C33_10, .code C33_15] tm st
 | .p3 out s => ∀ (tm : Fr) (st : Store) (io0 : Nat), Frm tm [(1, .ptr io0 0), (3, AV.str out)] → SH st [pt io0 (.cells (c24 s))] → W (X33 r) [.code C33_15] tm st
 | .p4 out c s => ∀ (tm : Fr) (st : Store) (io0 : Nat), Frm tm [(1, .ptr io0 0), (3, AV.str out), (5, AV.int .i64 c)] → SH st [pt io0 (.cells (c24 s))] → W (X33 r) [.lp C33_20, .blk 0, .code C33_61] tm st
 | .p5 out c from_ s => ∀ (tm : Fr) (st : Store) (io0 : Nat), Frm tm [(1, .ptr io0 0), (3, AV.str out), (5, AV.int .i64 c), (6, AV.int .i64 from_)] → SH st [pt io0 (.cells (c24 s))] → W (X33 r) [.lp C33_39, .blk 2, .code C33_47, .blk 1, .code C33_60, .lp C33_20, .blk 0, .code C33_61] tm st
 | .p6 out c from_ s => ∀ (tm : Fr) (st : Store) (io0 : Nat), Frm tm [(1, .ptr io0 0), (3, AV.str out), (5, AV.int .i64 c), (6, AV.int .i64 from_)] → SH st [pt io0 (.cells (c24 s))] → W (X33 r) [.code C33_47, .blk 1, .code C33_60, .lp C33_20, .blk 0, .code C33_61] tm st
 | .p7 out c from_ s => ∀ (tm : Fr) (st : Store) (io0 : Nat), Frm tm [(1, .ptr io0 0), (3, AV.str out), (5, AV.int .i64 c), (6, AV.int .i64 from_)] → SH st [pt io0 (.cells (c24 s))] → W (X33 r) [.code C33_55, .blk 1, .code C33_60, .lp C33_20, .blk 0, .code C33_61] tm st
theorem w33 : ∀ (x : St33) (r : Str), G33 x = some r → M33 x r := by
 refine G33.partial_correctness M33 ?_
 intro g ih x r hF
 cases x with
 | p1 s =>
  dsimp only at hF
  intro tm st io0 hf hs
  refine en hf ?_
  refine rn 1 rfl ?_
  refine W.o (lN (s := c24 s) rfl (hs.g 0 rfl) rfl rfl) ?_
  obtain ⟨r_6, g_7, hF⟩ := bind_some hF
  refine df (d30 s _ g_7) rfl ?_
  refine sr hs 0 rfl rfl rfl (cs' := c24 r_6) rfl rfl fun st hs => ?_
  refine rj 0 1 rfl ?_
  exact ih (.p3 ([94] : Str) r_6) _ hF _ _ io0 ⟨rfl, rfl, trivial⟩ hs
 | p2 out t19_ s =>
  dsimp only at hF
  intro tm st io0 hf hs
  refine en hf ?_
  refine ci hF rfl (fun c_8 hF => ?_) (fun c_8 hF => ?_)
  · exact ih (.p1 s) _ hF _ _ io0 ⟨rfl, trivial⟩ hs
  · refine rj 0 1 rfl ?_
    exact ih (.p3 out s) _ hF _ _ io0 ⟨rfl, rfl, trivial⟩ hs
 | p3 out s =>
  dsimp only at hF
  intro tm st io0 hf hs
  refine en hf ?_
  refine rn 1 rfl ?_
  exact ih (.p4 out 0 s) _ hF _ _ io0 ⟨rfl, rfl, rfl, trivial⟩ hs
 | p4 out c s =>
  dsimp only at hF
  intro tm st io0 hf hs
  refine en hf ?_
  refine lp ?_
  refine rn 2 rfl ?_
  refine ci hF rfl (fun c_9 hF => ?_) (fun c_9 hF => ?_)
  · refine rn 0 rfl ?_
    refine W.o (lN (s := c24 s) rfl (hs.g 0 rfl) rfl rfl) ?_
    obtain ⟨r_10, g_11, hF⟩ := bind_some hF
    refine rn 2 rfl ?_
    refine df (d18 s (IntKind.wrap .u8 c) _ g_11) rfl ?_
    refine rn 1 rfl ?_
    refine ci hF rfl (fun c_12 hF => ?_) (fun c_12 hF => ?_)
    · refine rn 3 rfl ?_
      exact ih (.p4 out (IntKind.wrap .i64 (c + 1)) s) _ hF _ _ io0 ⟨rfl, rfl, rfl, trivial⟩ hs
    · refine rn 2 rfl ?_
      exact ih (.p5 out c c s) _ hF _ _ io0 ⟨rfl, rfl, rfl, rfl, trivial⟩ hs
  · obtain ⟨g_13, hF⟩ := grd_some hF
    refine rn 1 rfl ?_
    refine W.o (e_str rfl rfl (op_cat _ _ g_13)) ?_
    refine rn 1 rfl ?_
    cases hF
    exact rD (rlt rl0) rfl
 | p5 out c from_ s =>
  dsimp only at hF
  intro tm st io0 hf hs
  refine en hf ?_
  refine lp ?_
  refine rn 3 rfl ?_
  refine bi hF (fun c_14 hF => ?_) (fun c_14 hF => ?_)
  · refine wfx 34 rfl c_14 ?_
    refine W.on rfl rfl ?_
    refine W.o (lN (s := c24 s) rfl (hs.g 0 rfl) rfl rfl) ?_
    obtain ⟨r_15, g_16, hF⟩ := bind_some hF
    refine rn 3 rfl ?_
    refine W.on rfl rfl ?_
    refine df (d18 s (IntKind.wrap .u8 (IntKind.wrap .i64 (c + 1))) _ g_16) rfl ?_
    refine rn 1 rfl ?_
    refine ci hF rfl (fun c_17 hF => ?_) (fun c_17 hF => ?_)
    · refine rn 3 rfl ?_
      exact ih (.p5 out (IntKind.wrap .i64 (c + 1)) from_ s) _ hF _ _ io0 ⟨rfl, rfl, rfl, rfl, trivial⟩ hs
    · refine rj 0 1 rfl ?_
      exact ih (.p6 out c from_ s) _ hF _ _ io0 ⟨rfl, rfl, rfl, rfl, trivial⟩ hs
  · refine wfx 34 rfl c_14 ?_
    refine rn 6 rfl ?_
    refine cf rfl rfl ?_
    refine rj 0 1 rfl ?_
    exact ih (.p6 out c from_ s) _ hF _ _ io0 ⟨rfl, rfl, rfl, rfl, trivial⟩ hs
 | p6 out c from_ s =>
  dsimp only at hF
  intro tm st io0 hf hs
  refine en hf ?_
  obtain ⟨r_18, g_19, hF⟩ := bind_some hF
  refine rn 3 rfl ?_
  refine df (d43 (IntKind.wrap .u8 from_) _ g_19) rfl ?_
  obtain ⟨g_20, hF⟩ := grd_some hF
  refine W.o (e_str rfl rfl (op_cat _ _ g_20)) ?_
  refine rn 5 rfl ?_
  refine ci hF rfl (fun c_21 hF => ?_) (fun c_21 hF => ?_)
  · obtain ⟨g_22, hF⟩ := grd_some hF
    refine rn 1 rfl ?_
    refine W.o (e_str rfl rfl (op_cat _ _ g_22)) ?_
    refine rj 1 1 rfl ?_
    exact ih (.p7 ((out ++ r_18) ++ ([45] : Str)) c from_ s) _ hF _ _ io0 ⟨rfl, rfl, rfl, rfl, trivial⟩ hs
  · refine rj 0 1 rfl ?_
    exact ih (.p7 (out ++ r_18) c from_ s) _ hF _ _ io0 ⟨rfl, rfl, rfl, rfl, trivial⟩ hs
 | p7 out c from_ s =>
  dsimp only at hF
  intro tm st io0 hf hs
  refine en hf ?_
  refine rn 3 rfl ?_
  refine ci hF rfl (fun c_23 hF => ?_) (fun c_23 hF => ?_)
  · obtain ⟨r_24, g_25, hF⟩ := bind_some hF
    refine rn 3 rfl ?_
    refine df (d43 (IntKind.wrap .u8 c) _ g_25) rfl ?_
    obtain ⟨g_26, hF⟩ := grd_some hF
    refine W.o (e_str rfl rfl (op_cat _ _ g_26)) ?_
    refine rn 4 rfl ?_
    exact ih (.p4 (out ++ r_24) (IntKind.wrap .i64 (c + 1)) s) _ hF _ _ io0 ⟨rfl, rfl, rfl, trivial⟩ hs
  · refine rn 3 rfl ?_
    exact ih (.p4 out (IntKind.wrap .i64 (c + 1)) s) _ hF _ _ io0 ⟨rfl, rfl, rfl, trivial⟩ hs
noncomputable def F33 (s : Arr 4 Int) : Option Str :=
 (F16 s >>= fun r_2 =>
  (if (decide (((ls r_2).length : Int) > 128)) = true then
   (if (decide (((ls r_2).length : Int) < 256)) = true then
    (G33 (.p1 s))
   else
    (G33 (.p2 ([] : Str) (((ls r_2).length : Int) == 0) s)))
  else
   (G33 (.p2 ([] : Str) (((ls r_2).length : Int) == 0) s))))
theorem d33 (s : Arr 4 Int) (r : Str) (hF : F33 s = some r) : DFun Try.prog noG 33 [v24 s] (AV.str r) := by
 unfold F33 at hF
 refine bD k33 rfl ?_
 have hs : SH [] [] := SH.nil
 generalize ([] : Store) = st at hs ⊢
 refine rn 0 rfl ?_
 refine bx hs (cs := c24 s) rfl rfl fun st b_1 hs => ?_
 refine rn 2 rfl ?_
 refine W.o (lN (s := c24 s) rfl (hs.g 0 rfl) rfl rfl) ?_
 obtain ⟨r_2, g_3, hF⟩ := bind_some hF
 refine df (d16 s _ g_3) rfl ?_
 refine W.o (e_len (rd_V rfl)) ?_
 refine rn 4 rfl ?_
 refine bi hF (fun c_4 hF => ?_) (fun c_4 hF => ?_)
 · refine wfx 12 rfl c_4 ?_
   refine rn 4 rfl ?_
   refine bi hF (fun c_5 hF => ?_) (fun c_5 hF => ?_)
   · refine wfx 16 rfl c_5 ?_
     refine rn 3 rfl ?_
     refine ct rfl rfl ?_
     exact w33 (.p1 s) _ hF _ _ b_1 ⟨rfl, trivial⟩ hs
   · refine wfx 16 rfl c_5 ?_
     refine rj 3 1 rfl ?_
     exact w33 (.p2 ([] : Str) (((ls r_2).length : Int) == 0) s) _ hF _ _ b_1 ⟨rfl, rfl, rfl, trivial⟩ hs
 · refine wfx 12 rfl c_4 ?_
   refine rj 7 1 rfl ?_
   exact w33 (.p2 ([] : Str) (((ls r_2).length : Int) == 0) s) _ hF _ _ b_1 ⟨rfl, rfl, rfl, trivial⟩ hs
/-! ### 45: paddock/paddockref07.special -/
def O45_5o1 : List AOp := (q 29 (.mv 28)).y 16 :: (q 30 (.mv 0)).n 29 :: (q 31 (.mv 1)).n 29 :: (q 32 (.binI .add 31 (ki 1))).n 29 :: (q 33 (.ixS 30 32)).n 29 :: (q 34 (.binI .eql 33 (ku 58))).n 29 :: (q 35 (.pick 29 (.c (.bool true)) 34)).y 16 :: q 36 (.pick 16 35 (.c (.bool false))) :: []
def O45_5o0 : List AOp := q 5 (.mv 1) :: q 6 (.binI .add 5 (ki 1)) :: q 7 (.mv 0) :: q 8 (.lenS 7) :: q 9 (.binI .lss 6 8) :: q 10 (.mv 9) :: (q 11 (.mv 0)).y 10 :: (q 12 (.mv 1)).y 10 :: (q 13 (.ixS 11 12)).y 10 :: (q 14 (.binI .eql 13 (ku 91))).y 10 :: q 15 (.pick 10 14 (.c (.bool false))) :: q 16 (.mv 15) :: (q 17 (.mv 0)).y 16 :: (q 18 (.mv 1)).y 16 :: (q 19 (.binI .add 18 (ki 1))).y 16 :: (q 20 (.ixS 17 19)).y 16 :: (q 21 (.binI .eql 20 (ku 46))).y 16 :: (q 22 (.mv 21)).y 16 :: (q 23 (.mv 0)).n 22 :: (q 24 (.mv 1)).n 22 :: (q 25 (.binI .add 24 (ki 1))).n 22 :: (q 26 (.ixS 23 25)).n 22 :: (q 27 (.binI .eql 26 (ku 61))).n 22 :: (q 28 (.pick 22 (.c (.bool true)) 27)).y 16 :: O45_5o1
def C45_7 : ACode := .s (.ops [q 37 (.mv 0), q 38 (.mv 1), q 39 (.binI .add 38 (ki 1)), q 40 (.ixS 37 39), q 4 (.mv 40)]) .ret
def C45_11 : ACode := .s (.ops [q 4 (.mv (ku 0))]) .ret
def C45_1 : ACode := .s (.ops [q 4 (.mv (ku 0))]) (.s (.s (.ops O45_5o0) (.cond 36 C45_7 .skip)) C45_11)
def R45 : List RA := [(.tmp 4)]
theorem k45 : compF Try.prog (muL []) 45 = some ⟨41, C45_1, R45⟩ := by kernel_rfl
noncomputable abbrev X45 (r : Int) : Cx := cD Try.prog noG 41 R45 (AV.int .u8 r)
inductive St45 where
 | p1 (s : Str) (i : Int)
noncomputable def G45 : St45 → Option Int
 | .p1 s i =>
  (ix s (IntKind.wrap .i64 (i + 1)) >>= fun b_14 =>
   (some (b_14.toNat : Int)))
def M45 (x : St45) (r : Int) : Prop := match x with
 | .p1 s i => ∀ (tm : Fr) (st : Store), Frm tm [(0, AV.str s), (1, AV.int .i64 i)] → SH st [] → W (X45 r) [.code C45_7, .code C45_11] tm st
theorem w45 : ∀ (x : St45) (r : Int), G45 x = some r → M45 x r := by
 intro x r hF
 cases x with
 | p1 s i =>
  dsimp only [G45] at hF
  intro tm st hf hs
  refine en hf ?_
  obtain ⟨b_14, g_15, hF⟩ := bind_some hF
  refine rn 3 rfl ?_
  refine W.o (e_ixS rfl rfl g_15) ?_
  refine rn 1 rfl ?_
  cases hF
  exact rD (rlt rl0) rfl
noncomputable def F45 (s : Str) (i : Int) : Option Int :=
 (if (decide ((IntKind.wrap .i64 (i + 1)) < ((s).length : Int))) = true then
  (ix s i >>= fun b_2 =>
   (if ((b_2.toNat : Int) == 91) = true then
    (ix s (IntKind.wrap .i64 (i + 1)) >>= fun b_5 =>
     (if ((b_5.toNat : Int) == 46) = true then
      (G45 (.p1 s i))
     else
      (ix s (IntKind.wrap .i64 (i + 1)) >>= fun b_8 =>
       (if ((b_8.toNat : Int) == 61) = true then
        (G45 (.p1 s i))
       else
        (ix s (IntKind.wrap .i64 (i + 1)) >>= fun b_11 =>
         (if ((b_11.toNat : Int) == 58) = true then
          (G45 (.p1 s i))
         else
          (some 0)))))))
   else
    (some 0)))
 else
  (some 0))
theorem d45 (s : Str) (i : Int) (r : Int) (hF : F45 s i = some r) : DFun Try.prog noG 45 [AV.str s, AV.int .i64 i] (AV.int .u8 r) := by
 unfold F45 at hF
 refine bD k45 rfl ?_
 have hs : SH [] [] := SH.nil
 generalize ([] : Store) = st at hs ⊢
 refine rn 7 rfl ?_
 refine bi hF (fun c_1 hF => ?_) (fun c_1 hF => ?_)
 · refine wfx 10 rfl c_1 ?_
   obtain ⟨b_2, g_3, hF⟩ := bind_some hF
   refine rn 2 rfl ?_
   refine W.on rfl rfl ?_
   refine W.o (e_ixS rfl rfl g_3) ?_
   refine rn 3 rfl ?_
   refine bi hF (fun c_4 hF => ?_) (fun c_4 hF => ?_)
   · refine wfx 16 rfl c_4 ?_
     obtain ⟨b_5, g_6, hF⟩ := bind_some hF
     refine rn 3 rfl ?_
     refine W.on rfl rfl ?_
     refine W.o (e_ixS rfl rfl g_6) ?_
     refine rn 2 rfl ?_
     refine bi hF (fun c_7 hF => ?_) (fun c_7 hF => ?_)
     · refine wfx 22 rfl c_7 ?_
       refine rn 14 rfl ?_
       refine ct rfl rfl ?_
       exact w45 (.p1 s i) _ hF _ _ ⟨rfl, rfl, trivial⟩ hs
     · refine wfx 22 rfl c_7 ?_
       obtain ⟨b_8, g_9, hF⟩ := bind_some hF
       refine rn 3 rfl ?_
       refine W.on rfl rfl ?_
       refine W.o (e_ixS rfl rfl g_9) ?_
       refine rn 3 rfl ?_
       refine bi hF (fun c_10 hF => ?_) (fun c_10 hF => ?_)
       · refine wfx 29 rfl c_10 ?_
         refine rn 7 rfl ?_
         refine ct rfl rfl ?_
         exact w45 (.p1 s i) _ hF _ _ ⟨rfl, rfl, trivial⟩ hs
       · refine wfx 29 rfl c_10 ?_
         obtain ⟨b_11, g_12, hF⟩ := bind_some hF
         refine rn 3 rfl ?_
         refine W.on rfl rfl ?_
         refine W.o (e_ixS rfl rfl g_12) ?_
         refine rn 3 rfl ?_
         refine ci hF rfl (fun c_13 hF => ?_) (fun c_13 hF => ?_)
         · exact w45 (.p1 s i) _ hF _ _ ⟨rfl, rfl, trivial⟩ hs
         · refine rn 1 rfl ?_
           cases hF
           exact rD (rlt rl0) rfl
   · refine wfx 16 rfl c_4 ?_
     refine rn 20 rfl ?_
     refine cf rfl rfl ?_
     refine rn 1 rfl ?_
     cases hF
     exact rD (rlt rl0) rfl
 · refine wfx 10 rfl c_1 ?_
   refine rn 26 rfl ?_
   refine cf rfl rfl ?_
   refine rn 1 rfl ?_
   cases hF
   exact rD (rlt rl0) rfl
/-! ### 47: paddock/paddockref07.one -/
def C47_11 : ACode := .s (.ops [q 36 (.mv 1), q 4 (.mv (ku 0)), q 5 (.mv 36), q 6 (.mv (.c (.bool false)))]) .ret
def C47_1 : ACode := .s (.ops [q 4 (.mv (ku 0)), q 5 (.mv (ki 0)), q 6 (.mv (.c (.bool false)))]) (.s (.s (.draw [] 0 0 [q 7 (.mv 1), q 8 (.binI .add 7 (ki 4)), q 9 (.mv 0), q 10 (.lenS 9), q 11 (.binI .lss 8 10), q 12 (.mv 11), (q 13 (.mv 0)).y 12, (q 14 (.mv 1)).y 12, (q 15 (.binI .add 14 (ki 3))).y 12, (q 16 (.ixS 13 15)).y 12, (q 17 (.mv 0)).y 12, (q 18 (.mv 1)).y 12, (q 19 (.binI .add 18 (ki 1))).y 12, (q 20 (.ixS 17 19)).y 12, (q 21 (.binI .eql 16 20)).y 12, q 22 (.pick 12 21 (.c (.bool false))), q 23 (.mv 22), (q 24 (.mv 0)).y 23, (q 25 (.mv 1)).y 23, (q 26 (.binI .add 25 (ki 4))).y 23, (q 27 (.ixS 24 26)).y 23, (q 28 (.binI .eql 27 (ku 93))).y 23, q 29 (.pick 23 28 (.c (.bool false)))] []) (.cond 29 (.s (.ops [q 30 (.mv 0), q 31 (.mv 1), q 32 (.binI .add 31 (ki 2)), q 33 (.ixS 30 32), q 34 (.mv 1), q 35 (.binI .add 34 (ki 5)), q 4 (.mv 33), q 5 (.mv 35), q 6 (.mv (.c (.bool true)))]) .ret) .skip)) C47_11)
def R47 : List RA := [(.tmp 4), (.tmp 5), (.tmp 6)]
theorem k47 : compF Try.prog (muL []) 47 = some ⟨37, C47_1, R47⟩ := by kernel_rfl
noncomputable abbrev X47 (r : Int × Int × Bool) : Cx := cD Try.prog noG 37 R47 (AV.tup [AV.int .u8 r.1, AV.int .i64 r.2.1, AV.bool r.2.2])
inductive St47 where
 | p1 (i : Int)
noncomputable def G47 : St47 → Option (Int × Int × Bool)
 | .p1 i =>
  (some (0, i, false))
def M47 (x : St47) (r : Int × Int × Bool) : Prop := match x with
 | .p1 i => ∀ (tm : Fr) (st : Store), Frm tm [(1, AV.int .i64 i)] → SH st [] → W (X47 r) [.code C47_11] tm st
theorem w47 : ∀ (x : St47) (r : Int × Int × Bool), G47 x = some r → M47 x r := by
 intro x r hF
 cases x with
 | p1 i =>
  dsimp only [G47] at hF
  intro tm st hf hs
  refine en hf ?_
  refine rn 4 rfl ?_
  cases hF
  exact rD (rlt (rlt (rlt rl0))) rfl
noncomputable def F47 (s : Str) (i : Int) : Option (Int × Int × Bool) :=
 (if (decide ((IntKind.wrap .i64 (i + 4)) < ((s).length : Int))) = true then
  (ix s (IntKind.wrap .i64 (i + 3)) >>= fun b_2 =>
   (ix s (IntKind.wrap .i64 (i + 1)) >>= fun b_4 =>
    (if ((b_2.toNat : Int) == (b_4.toNat : Int)) = true then
     (ix s (IntKind.wrap .i64 (i + 4)) >>= fun b_7 =>
      (if ((b_7.toNat : Int) == 93) = true then
       (ix s (IntKind.wrap .i64 (i + 2)) >>= fun b_10 =>
        (some ((b_10.toNat : Int), IntKind.wrap .i64 (i + 5), true)))
      else
       (G47 (.p1 i))))
    else
     (G47 (.p1 i)))))
 else
  (G47 (.p1 i)))
theorem d47 (s : Str) (i : Int) (r : Int × Int × Bool) (hF : F47 s i = some r) : DFun Try.prog noG 47 [AV.str s, AV.int .i64 i] (AV.tup [AV.int .u8 r.1, AV.int .i64 r.2.1, AV.bool r.2.2]) := by
 unfold F47 at hF
 refine bD k47 rfl ?_
 have hs : SH [] [] := SH.nil
 generalize ([] : Store) = st at hs ⊢
 refine rn 3 rfl ?_
 have h0 := hs
 refine dr0 ?_
 refine dn 6 rfl ?_
 refine bi hF (fun c_1 hF => ?_) (fun c_1 hF => ?_)
 · refine dfx 12 rfl c_1 ?_
   obtain ⟨b_2, g_3, hF⟩ := bind_some hF
   refine dn 3 rfl ?_
   refine don rfl rfl ?_
   refine de rfl (e_ixS rfl rfl g_3) ?_
   obtain ⟨b_4, g_5, hF⟩ := bind_some hF
   refine dn 3 rfl ?_
   refine don rfl rfl ?_
   refine de rfl (e_ixS rfl rfl g_5) ?_
   refine dn 3 rfl ?_
   refine bi hF (fun c_6 hF => ?_) (fun c_6 hF => ?_)
   · refine dfx 23 rfl c_6 ?_
     obtain ⟨b_7, g_8, hF⟩ := bind_some hF
     refine dn 3 rfl ?_
     refine don rfl rfl ?_
     refine de rfl (e_ixS rfl rfl g_8) ?_
     refine dn 2 rfl ?_
     refine dz ?_
     refine rn 0 rfl ?_
     refine ci hF rfl (fun c_9 hF => ?_) (fun c_9 hF => ?_)
     · obtain ⟨b_10, g_11, hF⟩ := bind_some hF
       refine rn 3 rfl ?_
       refine W.o (e_ixS rfl rfl g_11) ?_
       refine rn 5 rfl ?_
       cases hF
       exact rD (rlt (rlt (rlt rl0))) rfl
     · refine rj 0 1 rfl ?_
       exact w47 (.p1 i) _ hF _ _ ⟨rfl, trivial⟩ hs
   · refine dfx 23 rfl c_6 ?_
     refine dn 6 rfl ?_
     refine dz ?_
     refine rn 0 rfl ?_
     refine cf rfl rfl ?_
     refine rj 0 1 rfl ?_
     exact w47 (.p1 i) _ hF _ _ ⟨rfl, trivial⟩ hs
 · refine dfx 12 rfl c_1 ?_
   refine dn 17 rfl ?_
   refine dz ?_
   refine rn 0 rfl ?_
   refine cf rfl rfl ?_
   refine rj 0 1 rfl ?_
   exact w47 (.p1 i) _ hF _ _ ⟨rfl, trivial⟩ hs
/-! ### 48: paddock/paddockref07.element -/
def C48_24 : ACode := .s (.ops [q 45 (.mv 0), q 46 (.mv 1), q 47 (.ixS 45 46), q 48 (.mv 1), q 49 (.binI .add 48 (ki 1)), q 4 (.mv 47), q 5 (.mv 49), q 6 (.mv (.c (.bool true)))]) .ret
def C48_1 : ACode := .s (.ops [q 4 (.mv (ku 0)), q 5 (.mv (ki 0)), q 6 (.mv (.c (.bool false)))]) (.s (.block 0 (.s (.ops [q 8 (.mv 0), q 9 (.mv 1), qc 10 45 [8, 9], q 11 (.binI .eql 10 (ku 46)), q 7 (.mv 11)]) (.cond 7 (.s (.ops [q 12 (.mv 0), q 13 (.mv 1), qc 14 47 [12, 13], q 15 (.extract 14 0), q 16 (.extract 14 1), q 17 (.extract 14 2), q 4 (.mv 15), q 5 (.mv 16), q 6 (.mv 17)]) .ret) (.s (.ops [q 19 (.mv 0), q 20 (.mv 1), qc 21 45 [19, 20], q 22 (.binI .neq 21 (ku 0)), q 18 (.mv 22)]) (.cond 18 (.s (.ops [q 23 (.mv 1), q 4 (.mv (ku 0)), q 5 (.mv 23), q 6 (.mv (.c (.bool false)))]) .ret) (.s (.ops [q 25 (.mv 1), q 26 (.binI .add 25 (ki 1)), q 27 (.mv 0), q 28 (.lenS 27), q 29 (.binI .lss 26 28), q 30 (.mv 29), (q 31 (.mv 0)).y 30, (q 32 (.mv 1)).y 30, (q 33 (.ixS 31 32)).y 30, (q 34 (.binI .eql 33 (ku 92))).y 30, q 35 (.pick 30 34 (.c (.bool false))), q 36 (.mv 35), (q 37 (.mv 0)).y 36, (q 38 (.mv 1)).y 36, (q 39 (.binI .add 38 (ki 1))).y 36, (q 40 (.ixS 37 39)).y 36, (q 41 (.binI .eql 40 (ku 110))).y 36, q 42 (.pick 36 41 (.c (.bool false))), q 24 (.mv 42)]) (.cond 24 (.s (.ops [q 43 (.mv 1), q 44 (.binI .add 43 (ki 2)), q 4 (.mv (ku 10)), q 5 (.mv 44), q 6 (.mv (.c (.bool true)))]) .ret) .skip))))))) C48_24)
def R48 : List RA := [(.tmp 4), (.tmp 5), (.tmp 6)]
theorem k48 : compF Try.prog (muL []) 48 = some ⟨50, C48_1, R48⟩ := by kernel_rfl
noncomputable abbrev X48 (r : Int × Int × Bool) : Cx := cD Try.prog noG 50 R48 (AV.tup [AV.int .u8 r.1, AV.int .i64 r.2.1, AV.bool r.2.2])
inductive St48 where
 | p1 (s : Str) (i : Int)
noncomputable def G48 : St48 → Option (Int × Int × Bool)
 | .p1 s i =>
  (ix s i >>= fun b_16 =>
   (some ((b_16.toNat : Int), IntKind.wrap .i64 (i + 1), true)))
def M48 (x : St48) (r : Int × Int × Bool) : Prop := match x with
 | .p1 s i => ∀ (tm : Fr) (st : Store), Frm tm [(0, AV.str s), (1, AV.int .i64 i)] → SH st [] → W (X48 r) [.code C48_24] tm st
theorem w48 : ∀ (x : St48) (r : Int × Int × Bool), G48 x = some r → M48 x r := by
 intro x r hF
 cases x with
 | p1 s i =>
  dsimp only [G48] at hF
  intro tm st hf hs
  refine en hf ?_
  obtain ⟨b_16, g_17, hF⟩ := bind_some hF
  refine rn 2 rfl ?_
  refine W.o (e_ixS rfl rfl g_17) ?_
  refine rn 5 rfl ?_
  cases hF
  exact rD (rlt (rlt (rlt rl0))) rfl
noncomputable def F48 (s : Str) (i : Int) : Option (Int × Int × Bool) :=
 (F45 s i >>= fun r_1 =>
  (if (r_1 == 46) = true then
   (F47 s i >>= fun r_4 =>
    (some (r_4.1, r_4.2.1, r_4.2.2)))
  else
   (F45 s i >>= fun r_6 =>
    (if (r_6 != 0) = true then
     (some (0, i, false))
    else
     (if (decide ((IntKind.wrap .i64 (i + 1)) < ((s).length : Int))) = true then
      (ix s i >>= fun b_10 =>
       (if ((b_10.toNat : Int) == 92) = true then
        (ix s (IntKind.wrap .i64 (i + 1)) >>= fun b_13 =>
         (if ((b_13.toNat : Int) == 110) = true then
          (some (10, IntKind.wrap .i64 (i + 2), true))
         else
          (G48 (.p1 s i))))
       else
        (G48 (.p1 s i))))
     else
      (G48 (.p1 s i)))))))
theorem d48 (s : Str) (i : Int) (r : Int × Int × Bool) (hF : F48 s i = some r) : DFun Try.prog noG 48 [AV.str s, AV.int .i64 i] (AV.tup [AV.int .u8 r.1, AV.int .i64 r.2.1, AV.bool r.2.2]) := by
 unfold F48 at hF
 refine bD k48 rfl ?_
 have hs : SH [] [] := SH.nil
 generalize ([] : Store) = st at hs ⊢
 obtain ⟨r_1, g_2, hF⟩ := bind_some hF
 refine rn 5 rfl ?_
 refine df (d45 s i _ g_2) rfl ?_
 refine rn 2 rfl ?_
 refine ci hF rfl (fun c_3 hF => ?_) (fun c_3 hF => ?_)
 · obtain ⟨r_4, g_5, hF⟩ := bind_some hF
   refine rn 2 rfl ?_
   refine df (d47 s i _ g_5) rfl ?_
   refine rn 6 rfl ?_
   cases hF
   exact rD (rlt (rlt (rlt rl0))) rfl
 · obtain ⟨r_6, g_7, hF⟩ := bind_some hF
   refine rn 2 rfl ?_
   refine df (d45 s i _ g_7) rfl ?_
   refine rn 2 rfl ?_
   refine ci hF rfl (fun c_8 hF => ?_) (fun c_8 hF => ?_)
   · refine rn 4 rfl ?_
     cases hF
     exact rD (rlt (rlt (rlt rl0))) rfl
   · refine rn 6 rfl ?_
     refine bi hF (fun c_9 hF => ?_) (fun c_9 hF => ?_)
     · refine wfx 30 rfl c_9 ?_
       obtain ⟨b_10, g_11, hF⟩ := bind_some hF
       refine rn 2 rfl ?_
       refine W.on rfl rfl ?_
       refine W.o (e_ixS rfl rfl g_11) ?_
       refine rn 3 rfl ?_
       refine bi hF (fun c_12 hF => ?_) (fun c_12 hF => ?_)
       · refine wfx 36 rfl c_12 ?_
         obtain ⟨b_13, g_14, hF⟩ := bind_some hF
         refine rn 3 rfl ?_
         refine W.on rfl rfl ?_
         refine W.o (e_ixS rfl rfl g_14) ?_
         refine rn 3 rfl ?_
         refine ci hF rfl (fun c_15 hF => ?_) (fun c_15 hF => ?_)
         · refine rn 5 rfl ?_
           cases hF
           exact rD (rlt (rlt (rlt rl0))) rfl
         · refine rj 0 2 rfl ?_
           exact w48 (.p1 s i) _ hF _ _ ⟨rfl, rfl, trivial⟩ hs
       · refine wfx 36 rfl c_12 ?_
         refine rn 7 rfl ?_
         refine cf rfl rfl ?_
         refine rj 0 2 rfl ?_
         exact w48 (.p1 s i) _ hF _ _ ⟨rfl, rfl, trivial⟩ hs
     · refine wfx 30 rfl c_9 ?_
       refine rn 13 rfl ?_
       refine cf rfl rfl ?_
       refine rj 0 2 rfl ?_
       exact w48 (.p1 s i) _ hF _ _ ⟨rfl, rfl, trivial⟩ hs
/-! ### 10: paddock/paddockref07.Class -/
def C10_22 : ACode := .s (.ops [q 24 (.loadN 4 5), q0 (.store 4 2 24), q 3 (.mv (.c (.bool true)))]) .ret
def C10_58 : ACode := .s (.ops [qc 49 21 [(ku 9), (ku 13)], qc 50 35 [49, (ku 32)], q0 (.store 4 2 50), q 3 (.mv (.c (.bool true)))]) .ret
def C10_61 : ACode := .s (.ops [q 52 (.binS .eql 18 (.c (.str [99, 110, 116, 114, 108]))), q 51 (.mv 52)]) (.cond 51 (.s (.ops [qc 53 21 [(ku 0), (ku 31)], qc 54 35 [53, (ku 127)], q0 (.store 4 2 54), q 3 (.mv (.c (.bool true)))]) .ret) (.s (.ops [q 56 (.binS .eql 18 (.c (.str [112, 114, 105, 110, 116]))), q 55 (.mv 56)]) (.cond 55 (.s (.ops [q 57 (.loadN 4 8), qc 58 35 [57, (ku 32)], q0 (.store 4 2 58), q 3 (.mv (.c (.bool true)))]) .ret) (.s (.ops [q 60 (.binS .eql 18 (.c (.str [103, 114, 97, 112, 104]))), q 59 (.mv 60)]) (.cond 59 (.s (.ops [q 61 (.loadN 4 8), q0 (.store 4 2 61), q 3 (.mv (.c (.bool true)))]) .ret) (.s (.ops [q 63 (.binS .eql 18 (.c (.str [112, 117, 110, 99, 116]))), q 62 (.mv 63)]) (.cond 62 (.s (.draw [] 0 0 [q 64 (.loadN 4 8), q 65 (.loadN 4 7), qc 66 30 [65], qc 67 26 [64, 66]] [q0 (.store 4 2 67), q 3 (.mv (.c (.bool true)))]) .ret) .skip)))))))
def C10_25 : ACode := .s (.ops [q 26 (.binS .eql 18 (.c (.str [97, 108, 112, 104, 97]))), q 25 (.mv 26)]) (.cond 25 (.s (.ops [q 27 (.loadN 4 4), q 28 (.loadN 4 5), qc 29 28 [27, 28], q0 (.store 4 2 29), q 3 (.mv (.c (.bool true)))]) .ret) (.s (.ops [q 31 (.binS .eql 18 (.c (.str [100, 105, 103, 105, 116]))), q 30 (.mv 31)]) (.cond 30 (.s (.ops [q 32 (.loadN 4 6), q0 (.store 4 2 32), q 3 (.mv (.c (.bool true)))]) .ret) (.s (.ops [q 34 (.binS .eql 18 (.c (.str [97, 108, 110, 117, 109]))), q 33 (.mv 34)]) (.cond 33 (.s (.ops [q 35 (.loadN 4 7), q0 (.store 4 2 35), q 3 (.mv (.c (.bool true)))]) .ret) (.s (.ops [q 37 (.binS .eql 18 (.c (.str [120, 100, 105, 103, 105, 116]))), q 36 (.mv 37)]) (.cond 36 (.s (.draw [] 0 0 [q 38 (.loadN 4 6), qc 39 21 [(ku 65), (ku 70)], qc 40 21 [(ku 97), (ku 102)], qc 41 28 [39, 40], qc 42 28 [38, 41]] [q0 (.store 4 2 42), q 3 (.mv (.c (.bool true)))]) .ret) (.s (.ops [q 44 (.binS .eql 18 (.c (.str [98, 108, 97, 110, 107]))), q 43 (.mv 44)]) (.cond 43 (.s (.ops [q 45 (.bslice 1 2 false [(.int .u8 0)] [(0, (1, (ku 32))), (1, (1, (ku 9)))] false), qc 46 13 [45], q0 (.store 4 2 46), q 3 (.mv (.c (.bool true)))]) .ret) (.s (.ops [q 48 (.binS .eql 18 (.c (.str [115, 112, 97, 99, 101]))), q 47 (.mv 48)]) (.cond 47 C10_58 C10_61)))))))))))
def C10_1 : ACode := .s (.ops [q 2 (.alloc [(.int .u64 0), (.int .u64 0), (.int .u64 0), (.int .u64 0)]), q 3 (.mv (.c (.bool false)))]) (.s (.ops [qc 9 21 [(ku 65), (ku 90)], qc 10 21 [(ku 97), (ku 122)], qc 11 21 [(ku 48), (ku 57)], q 4 (.alloc [(.int .u64 0), (.int .u64 0), (.int .u64 0), (.int .u64 0)]), q 5 (.alloc [(.int .u64 0), (.int .u64 0), (.int .u64 0), (.int .u64 0)]), q 6 (.alloc [(.int .u64 0), (.int .u64 0), (.int .u64 0), (.int .u64 0)]), q0 (.store 4 4 9), q0 (.store 4 5 10), q0 (.store 4 6 11)]) (.s (.draw [] 0 1 [q 12 (.loadN 4 4), q 13 (.loadN 4 5), qc 14 28 [12, 13], q 15 (.loadN 4 6), qc 16 28 [14, 15], q 7 (.alloc [(.int .u64 0), (.int .u64 0), (.int .u64 0), (.int .u64 0)])] [q0 (.store 4 7 16)]) (.s (.ops [qc 17 21 [(ku 33), (ku 126)], q 8 (.alloc [(.int .u64 0), (.int .u64 0), (.int .u64 0), (.int .u64 0)]), q0 (.store 4 8 17)]) (.s (.s (.ops [q 18 (.mv 0)]) (.block 0 (.s (.ops [q 20 (.binS .eql 18 (.c (.str [117, 112, 112, 101, 114]))), q 19 (.mv 20)]) (.cond 19 (.s (.ops [q 21 (.loadN 4 4), q0 (.store 4 2 21), q 3 (.mv (.c (.bool true)))]) .ret) (.s (.ops [q 23 (.binS .eql 18 (.c (.str [108, 111, 119, 101, 114]))), q 22 (.mv 23)]) (.cond 22 C10_22 C10_25)))))) (.s (.ops [q 68 (.build [(.int .u64 0), (.int .u64 0), (.int .u64 0), (.int .u64 0)] []), q0 (.store 4 2 68), q 3 (.mv (.c (.bool false)))]) .ret)))))
def R10 : List RA := [(.cellN 2 4), (.tmp 3)]
theorem k10 : compF Try.prog (muL []) 10 = some ⟨69, C10_1, R10⟩ := by kernel_rfl
noncomputable abbrev X10 (r : Arr 4 Int × Bool) : Cx := cD Try.prog noG 69 R10 (AV.tup [v24 r.1, AV.bool r.2])
noncomputable def F10 (name : Str) : Option (Arr 4 Int × Bool) :=
 (F21 65 90 >>= fun r_2 =>
  (F21 97 122 >>= fun r_4 =>
   (F21 48 57 >>= fun r_6 =>
    (F28 r_2 r_4 >>= fun r_13 =>
     (F28 r_13 r_6 >>= fun r_15 =>
      (F21 33 126 >>= fun r_18 =>
       (if (name == ([117, 112, 112, 101, 114] : Str)) = true then
        (some (r_2, true))
       else
        (if (name == ([108, 111, 119, 101, 114] : Str)) = true then
         (some (r_4, true))
        else
         (if (name == ([97, 108, 112, 104, 97] : Str)) = true then
          (F28 r_2 r_4 >>= fun r_24 =>
           (some (r_24, true)))
         else
          (if (name == ([100, 105, 103, 105, 116] : Str)) = true then
           (some (r_6, true))
          else
           (if (name == ([97, 108, 110, 117, 109] : Str)) = true then
            (some (r_15, true))
           else
            (if (name == ([120, 100, 105, 103, 105, 116] : Str)) = true then
             (F21 65 70 >>= fun r_29 =>
              (F21 97 102 >>= fun r_31 =>
               (F28 r_29 r_31 >>= fun r_33 =>
                (F28 r_6 r_33 >>= fun r_35 =>
                 (some (r_35, true))))))
            else
             (if (name == ([98, 108, 97, 110, 107] : Str)) = true then
              (F13 (some ([32, 9] : List Int)) >>= fun r_39 =>
               (some (r_39, true)))
             else
              (if (name == ([115, 112, 97, 99, 101] : Str)) = true then
               (F21 9 13 >>= fun r_42 =>
                (F35 r_42 32 >>= fun r_44 =>
                 (some (r_44, true))))
              else
               (if (name == ([99, 110, 116, 114, 108] : Str)) = true then
                (F21 0 31 >>= fun r_47 =>
                 (F35 r_47 127 >>= fun r_49 =>
                  (some (r_49, true))))
               else
                (if (name == ([112, 114, 105, 110, 116] : Str)) = true then
                 (F35 r_18 32 >>= fun r_52 =>
                  (some (r_52, true)))
                else
                 (if (name == ([103, 114, 97, 112, 104] : Str)) = true then
                  (some (r_18, true))
                 else
                  (if (name == ([112, 117, 110, 99, 116] : Str)) = true then
                   (F30 r_15 >>= fun r_56 =>
                    (F26 r_18 r_56 >>= fun r_58 =>
                     (some (r_58, true))))
                  else
                   (some ((Arr.rep 4 0), false))))))))))))))))))))
theorem d10 (name : Str) (r : Arr 4 Int × Bool) (hF : F10 name = some r) : DFun Try.prog noG 10 [AV.str name] (AV.tup [v24 r.1, AV.bool r.2]) := by
 unfold F10 at hF
 refine bD k10 rfl ?_
 have hs : SH [] [] := SH.nil
 generalize ([] : Store) = st at hs ⊢
 refine rn 0 rfl ?_
 refine al hs (cs := c24 (Arr.rep 4 0)) rfl fun st b_1 hs => ?_
 obtain ⟨r_2, g_3, hF⟩ := bind_some hF
 refine rn 1 rfl ?_
 refine df (d21 65 90 _ g_3) rfl ?_
 obtain ⟨r_4, g_5, hF⟩ := bind_some hF
 refine df (d21 97 122 _ g_5) rfl ?_
 obtain ⟨r_6, g_7, hF⟩ := bind_some hF
 refine df (d21 48 57 _ g_7) rfl ?_
 refine al hs (cs := c24 (Arr.rep 4 0)) rfl fun st b_8 hs => ?_
 refine al hs (cs := c24 (Arr.rep 4 0)) rfl fun st b_9 hs => ?_
 refine al hs (cs := c24 (Arr.rep 4 0)) rfl fun st b_10 hs => ?_
 refine sr hs 2 rfl rfl rfl (cs' := c24 r_2) rfl rfl fun st hs => ?_
 refine sr hs 1 rfl rfl rfl (cs' := c24 r_4) rfl rfl fun st hs => ?_
 refine sr hs 0 rfl rfl rfl (cs' := c24 r_6) rfl rfl fun st hs => ?_
 refine rn 0 rfl ?_
 refine drn hs fun s_11 st h0 hs => ?_
 refine de rfl (lN (s := c24 r_2) rfl (h0.g 2 rfl) rfl rfl) ?_
 refine de rfl (lN (s := c24 r_4) rfl (h0.g 1 rfl) rfl rfl) ?_
 obtain ⟨r_13, g_14, hF⟩ := bind_some hF
 refine ddf (d28 r_2 r_4 _ g_14) rfl ?_
 refine de rfl (lN (s := c24 r_6) rfl (h0.g 0 rfl) rfl rfl) ?_
 obtain ⟨r_15, g_16, hF⟩ := bind_some hF
 refine ddf (d28 r_13 r_6 _ g_16) rfl ?_
 refine dal hs 0 (cs := c24 (Arr.rep 4 0)) rfl rfl rfl fun st hs => ?_
 refine dz ?_
 refine sr hs 0 rfl rfl rfl (cs' := c24 r_15) rfl rfl fun st hs => ?_
 obtain ⟨r_18, g_19, hF⟩ := bind_some hF
 refine rn 0 rfl ?_
 refine df (d21 33 126 _ g_19) rfl ?_
 refine al hs (cs := c24 (Arr.rep 4 0)) rfl fun st b_20 hs => ?_
 refine sr hs 0 rfl rfl rfl (cs' := c24 r_18) rfl rfl fun st hs => ?_
 refine rn 3 rfl ?_
 refine ci hF rfl (fun c_21 hF => ?_) (fun c_21 hF => ?_)
 · refine rn 0 rfl ?_
   refine W.o (lN (s := c24 r_2) rfl (hs.g 4 rfl) rfl rfl) ?_
   refine sr hs 5 rfl rfl rfl (cs' := c24 r_2) rfl rfl fun st hs => ?_
   refine rn 1 rfl ?_
   cases hF
   exact rD (rl_cellN rfl (hs.g 5 rfl) (LR.whole _ _) (c24_len _) (rlt rl0)) rfl
 · refine rn 2 rfl ?_
   refine ci hF rfl (fun c_22 hF => ?_) (fun c_22 hF => ?_)
   · refine rn 0 rfl ?_
     refine W.o (lN (s := c24 r_4) rfl (hs.g 3 rfl) rfl rfl) ?_
     refine sr hs 5 rfl rfl rfl (cs' := c24 r_4) rfl rfl fun st hs => ?_
     refine rn 1 rfl ?_
     cases hF
     exact rD (rl_cellN rfl (hs.g 5 rfl) (LR.whole _ _) (c24_len _) (rlt rl0)) rfl
   · refine rn 2 rfl ?_
     refine ci hF rfl (fun c_23 hF => ?_) (fun c_23 hF => ?_)
     · refine rn 0 rfl ?_
       refine W.o (lN (s := c24 r_2) rfl (hs.g 4 rfl) rfl rfl) ?_
       refine W.o (lN (s := c24 r_4) rfl (hs.g 3 rfl) rfl rfl) ?_
       obtain ⟨r_24, g_25, hF⟩ := bind_some hF
       refine df (d28 r_2 r_4 _ g_25) rfl ?_
       refine sr hs 5 rfl rfl rfl (cs' := c24 r_24) rfl rfl fun st hs => ?_
       refine rn 1 rfl ?_
       cases hF
       exact rD (rl_cellN rfl (hs.g 5 rfl) (LR.whole _ _) (c24_len _) (rlt rl0)) rfl
     · refine rn 2 rfl ?_
       refine ci hF rfl (fun c_26 hF => ?_) (fun c_26 hF => ?_)
       · refine rn 0 rfl ?_
         refine W.o (lN (s := c24 r_6) rfl (hs.g 2 rfl) rfl rfl) ?_
         refine sr hs 5 rfl rfl rfl (cs' := c24 r_6) rfl rfl fun st hs => ?_
         refine rn 1 rfl ?_
         cases hF
         exact rD (rl_cellN rfl (hs.g 5 rfl) (LR.whole _ _) (c24_len _) (rlt rl0)) rfl
       · refine rn 2 rfl ?_
         refine ci hF rfl (fun c_27 hF => ?_) (fun c_27 hF => ?_)
         · refine rn 0 rfl ?_
           refine W.o (lN (s := c24 r_15) rfl (hs.g 1 rfl) rfl rfl) ?_
           refine sr hs 5 rfl rfl rfl (cs' := c24 r_15) rfl rfl fun st hs => ?_
           refine rn 1 rfl ?_
           cases hF
           exact rD (rl_cellN rfl (hs.g 5 rfl) (LR.whole _ _) (c24_len _) (rlt rl0)) rfl
         · refine rn 2 rfl ?_
           refine ci hF rfl (fun c_28 hF => ?_) (fun c_28 hF => ?_)
           · refine rn 0 rfl ?_
             have h0 := hs
             refine dr0 ?_
             refine de rfl (lN (s := c24 r_6) rfl (h0.g 2 rfl) rfl rfl) ?_
             obtain ⟨r_29, g_30, hF⟩ := bind_some hF
             refine ddf (d21 65 70 _ g_30) rfl ?_
             obtain ⟨r_31, g_32, hF⟩ := bind_some hF
             refine ddf (d21 97 102 _ g_32) rfl ?_
             obtain ⟨r_33, g_34, hF⟩ := bind_some hF
             refine ddf (d28 r_29 r_31 _ g_34) rfl ?_
             obtain ⟨r_35, g_36, hF⟩ := bind_some hF
             refine ddf (d28 r_6 r_33 _ g_36) rfl ?_
             refine dz ?_
             refine sr hs 5 rfl rfl rfl (cs' := c24 r_35) rfl rfl fun st hs => ?_
             refine rn 1 rfl ?_
             cases hF
             exact rD (rl_cellN rfl (hs.g 5 rfl) (LR.whole _ _) (c24_len _) (rlt rl0)) rfl
           · refine rn 2 rfl ?_
             refine ci hF rfl (fun c_37 hF => ?_) (fun c_37 hF => ?_)
             · refine rn 0 rfl ?_
               refine bs (f := AV.int .u8) ([32, 9] : List Int) hs rfl rfl rfl rfl fun st b_38 hs => ?_
               obtain ⟨r_39, g_40, hF⟩ := bind_some hF
               refine df' (d13 (some ([32, 9] : List Int)) _ g_40) (ds := [slV 1 (AV.int .u8) (some ([32, 9] : List Int))]) (dsl_cons (dsw (es := 1) (f := AV.int .u8) (o := (some ([32, 9] : List Int))) (id := b_38)) dsl_nil) ?_
               refine sr hs 6 rfl rfl rfl (cs' := c24 r_39) rfl rfl fun st hs => ?_
               refine rn 1 rfl ?_
               cases hF
               exact rD (rl_cellN rfl (hs.g 6 rfl) (LR.whole _ _) (c24_len _) (rlt rl0)) rfl
             · refine rn 2 rfl ?_
               refine ci hF rfl (fun c_41 hF => ?_) (fun c_41 hF => ?_)
               · obtain ⟨r_42, g_43, hF⟩ := bind_some hF
                 refine rn 0 rfl ?_
                 refine df (d21 9 13 _ g_43) rfl ?_
                 obtain ⟨r_44, g_45, hF⟩ := bind_some hF
                 refine df (d35 r_42 32 _ g_45) rfl ?_
                 refine sr hs 5 rfl rfl rfl (cs' := c24 r_44) rfl rfl fun st hs => ?_
                 refine rn 1 rfl ?_
                 cases hF
                 exact rD (rl_cellN rfl (hs.g 5 rfl) (LR.whole _ _) (c24_len _) (rlt rl0)) rfl
               · refine rn 2 rfl ?_
                 refine ci hF rfl (fun c_46 hF => ?_) (fun c_46 hF => ?_)
                 · obtain ⟨r_47, g_48, hF⟩ := bind_some hF
                   refine rn 0 rfl ?_
                   refine df (d21 0 31 _ g_48) rfl ?_
                   obtain ⟨r_49, g_50, hF⟩ := bind_some hF
                   refine df (d35 r_47 127 _ g_50) rfl ?_
                   refine sr hs 5 rfl rfl rfl (cs' := c24 r_49) rfl rfl fun st hs => ?_
                   refine rn 1 rfl ?_
                   cases hF
                   exact rD (rl_cellN rfl (hs.g 5 rfl) (LR.whole _ _) (c24_len _) (rlt rl0)) rfl
                 · refine rn 2 rfl ?_
                   refine ci hF rfl (fun c_51 hF => ?_) (fun c_51 hF => ?_)
                   · refine rn 0 rfl ?_
                     refine W.o (lN (s := c24 r_18) rfl (hs.g 0 rfl) rfl rfl) ?_
                     obtain ⟨r_52, g_53, hF⟩ := bind_some hF
                     refine df (d35 r_18 32 _ g_53) rfl ?_
                     refine sr hs 5 rfl rfl rfl (cs' := c24 r_52) rfl rfl fun st hs => ?_
                     refine rn 1 rfl ?_
                     cases hF
                     exact rD (rl_cellN rfl (hs.g 5 rfl) (LR.whole _ _) (c24_len _) (rlt rl0)) rfl
                   · refine rn 2 rfl ?_
                     refine ci hF rfl (fun c_54 hF => ?_) (fun c_54 hF => ?_)
                     · refine rn 0 rfl ?_
                       refine W.o (lN (s := c24 r_18) rfl (hs.g 0 rfl) rfl rfl) ?_
                       refine sr hs 5 rfl rfl rfl (cs' := c24 r_18) rfl rfl fun st hs => ?_
                       refine rn 1 rfl ?_
                       cases hF
                       exact rD (rl_cellN rfl (hs.g 5 rfl) (LR.whole _ _) (c24_len _) (rlt rl0)) rfl
                     · refine rn 2 rfl ?_
                       refine ci hF rfl (fun c_55 hF => ?_) (fun c_55 hF => ?_)
                       · refine rn 0 rfl ?_
                         have h0 := hs
                         refine dr0 ?_
                         refine de rfl (lN (s := c24 r_18) rfl (h0.g 0 rfl) rfl rfl) ?_
                         refine de rfl (lN (s := c24 r_15) rfl (h0.g 1 rfl) rfl rfl) ?_
                         obtain ⟨r_56, g_57, hF⟩ := bind_some hF
                         refine ddf (d30 r_15 _ g_57) rfl ?_
                         obtain ⟨r_58, g_59, hF⟩ := bind_some hF
                         refine ddf (d26 r_18 r_56 _ g_59) rfl ?_
                         refine dz ?_
                         refine sr hs 5 rfl rfl rfl (cs' := c24 r_58) rfl rfl fun st hs => ?_
                         refine rn 1 rfl ?_
                         cases hF
                         exact rD (rl_cellN rfl (hs.g 5 rfl) (LR.whole _ _) (c24_len _) (rlt rl0)) rfl
                       · refine rn 0 rfl ?_
                         refine W.o (e_build (z := [(.int .u64 0), (.int .u64 0), (.int .u64 0), (.int .u64 0)]) (cs := c24 (Arr.rep 4 0)) pk_nil (show fillA (c24 (Arr.rep 4 0)) _ = _ from (fl_nil _))) ?_
                         refine sr hs 5 rfl rfl rfl (cs' := c24 (Arr.rep 4 0)) rfl rfl fun st hs => ?_
                         refine rn 1 rfl ?_
                         cases hF
                         exact rD (rl_cellN rfl (hs.g 5 rfl) (LR.whole _ _) (c24_len _) (rlt rl0)) rfl
/-! ### 46: paddock/paddockref07.class -/
def C46_21 : ACode := .s (.ops [q 39 (.loadN 4 8), q 40 (.mv 7), q 41 (.binI .add 40 (ki 2)), q 42 (.mv 9), q0 (.store 4 4 39), q 5 (.mv 41), q 6 (.mv 42)]) .ret
def C46_8 : ACode := .s (.s (.ops [q 12 (.mv 7), q 13 (.binI .add 12 (ki 1)), q 14 (.mv 0), q 15 (.lenS 14), q 16 (.binI .lss 13 15)]) (.cond 16 .skip (.exit 0))) (.s (.block 1 (.s (.ops [q 19 (.mv 0), q 20 (.mv 7), q 21 (.ixS 19 20), q 22 (.binI .eql 21 (ku 58)), q 23 (.mv 22), (q 24 (.mv 0)).y 23, (q 25 (.mv 7)).y 23, (q 26 (.binI .add 25 (ki 1))).y 23, (q 27 (.ixS 24 26)).y 23, (q 28 (.binI .eql 27 (ku 93))).y 23, q 29 (.pick 23 28 (.c (.bool false)))]) (.cond 29 (.s (.ops [q 31 (.mv 0), q 32 (.mv 1), q 33 (.binI .add 32 (ki 2)), q 34 (.mv 7), q 35 (.slS 31 (.some 33) (.some 34)), qc 36 10 [35], q 30 (.mv 36), q 37 (.extract 30 0), q 38 (.extract 30 1), q 8 (.alloc [(.int .u64 0), (.int .u64 0), (.int .u64 0), (.int .u64 0)]), q0 (.store 4 8 37), q 9 (.mv 38)]) C46_21) .skip))) (.ops [q 17 (.mv 7), q 18 (.binI .add 17 (ki 1)), q 7 (.mv 18)]))
def C46_26 : ACode := .s (.ops [q 43 (.build [(.int .u64 0), (.int .u64 0), (.int .u64 0), (.int .u64 0)] []), q 44 (.mv 1), q0 (.store 4 4 43), q 5 (.mv 44), q 6 (.mv (.c (.bool false)))]) .ret
def C46_1 : ACode := .s (.ops [q 4 (.alloc [(.int .u64 0), (.int .u64 0), (.int .u64 0), (.int .u64 0)]), q 5 (.mv (ki 0)), q 6 (.mv (.c (.bool false)))]) (.s (.s (.ops [q 10 (.mv 1), q 11 (.binI .add 10 (ki 2)), q 7 (.mv 11)]) (.block 0 (.loop C46_8))) C46_26)
def R46 : List RA := [(.cellN 4 4), (.tmp 5), (.tmp 6)]
theorem k46 : compF Try.prog (muL []) 46 = some ⟨45, C46_1, R46⟩ := by kernel_rfl
noncomputable abbrev X46 (r : Arr 4 Int × Int × Bool) : Cx := cD Try.prog noG 45 R46 (AV.tup [v24 r.1, AV.int .i64 r.2.1, AV.bool r.2.2])
inductive St46 where
 | p1 (s : Str) (i : Int) (k : Int) (t4_ : Arr 4 Int)
noncomputable def G46 : St46 → Option (Arr 4 Int × Int × Bool)
 | .p1 s i k t4_ =>
  (if (decide ((IntKind.wrap .i64 (k + 1)) < ((s).length : Int))) = true then
   (ix s k >>= fun b_3 =>
    (if ((b_3.toNat : Int) == 58) = true then
     (ix s (IntKind.wrap .i64 (k + 1)) >>= fun b_6 =>
      (if ((b_6.toNat : Int) == 93) = true then
       (strcut s (IntKind.wrap .i64 (i + 2)) k >>= fun w_9 =>
        (F10 w_9 >>= fun r_11 =>
         (some (r_11.1, IntKind.wrap .i64 (k + 2), r_11.2))))
      else
       (G46 (.p1 s i (IntKind.wrap .i64 (k + 1)) t4_))))
    else
     (G46 (.p1 s i (IntKind.wrap .i64 (k + 1)) t4_))))
  else
   (some ((Arr.rep 4 0), i, false)))
 partial_fixpoint
def M46 (x : St46) (r : Arr 4 Int × Int × Bool) : Prop := match x with
 | .p1 s i k t4_ => ∀ (tm : Fr) (st : Store) (io0 : Nat), Frm tm [(0, AV.str s), (1, AV.int .i64 i), (4, .ptr io0 0), (7, AV.int .i64 k)] → SH st [pt io0 (.cells (c24 t4_))] → W (X46 r) [.lp C46_8, .blk 0, .code C46_26] tm st
theorem w46 : ∀ (x : St46) (r : Arr 4 Int × Int × Bool), G46 x = some r → M46 x r := by
 refine G46.partial_correctness M46 ?_
 intro g ih x r hF
 cases x with
 | p1 s i k t4_ =>
  dsimp only at hF
  intro tm st io0 hf hs
  refine en hf ?_
  refine lp ?_
  refine rn 5 rfl ?_
  refine ci hF rfl (fun c_2 hF => ?_) (fun c_2 hF => ?_)
  · obtain ⟨b_3, g_4, hF⟩ := bind_some hF
    refine rn 2 rfl ?_
    refine W.o (e_ixS rfl rfl g_4) ?_
    refine rn 2 rfl ?_
    refine bi hF (fun c_5 hF => ?_) (fun c_5 hF => ?_)
    · refine wfx 23 rfl c_5 ?_
      obtain ⟨b_6, g_7, hF⟩ := bind_some hF
      refine rn 3 rfl ?_
      refine W.on rfl rfl ?_
      refine W.o (e_ixS rfl rfl g_7) ?_
      refine rn 2 rfl ?_
      refine ci hF rfl (fun c_8 hF => ?_) (fun c_8 hF => ?_)
      · obtain ⟨w_9, g_10, hF⟩ := bind_some hF
        refine rn 4 rfl ?_
        refine W.o (e_slS2 rfl rfl rfl g_10) ?_
        obtain ⟨r_11, g_12, hF⟩ := bind_some hF
        refine df (d10 w_9 _ g_12) rfl ?_
        refine rn 3 rfl ?_
        refine al hs (cs := c24 (Arr.rep 4 0)) rfl fun st b_13 hs => ?_
        refine sr hs 0 rfl rfl rfl (cs' := c24 r_11.1) rfl rfl fun st hs => ?_
        refine rn 1 rfl ?_
        refine W.o (lN (s := c24 r_11.1) rfl (hs.g 0 rfl) rfl rfl) ?_
        refine rn 3 rfl ?_
        refine sr hs 1 rfl rfl rfl (cs' := c24 r_11.1) rfl rfl fun st hs => ?_
        refine rn 2 rfl ?_
        cases hF
        exact rD (rl_cellN rfl (hs.g 1 rfl) (LR.whole _ _) (c24_len _) (rlt (rlt rl0))) rfl
      · refine rn 3 rfl ?_
        exact ih (.p1 s i (IntKind.wrap .i64 (k + 1)) t4_) _ hF _ _ io0 ⟨rfl, rfl, rfl, rfl, trivial⟩ hs
    · refine wfx 23 rfl c_5 ?_
      refine rn 6 rfl ?_
      refine cf rfl rfl ?_
      refine rn 3 rfl ?_
      exact ih (.p1 s i (IntKind.wrap .i64 (k + 1)) t4_) _ hF _ _ io0 ⟨rfl, rfl, rfl, rfl, trivial⟩ hs
  · refine rn 0 rfl ?_
    refine W.o (e_build (z := [(.int .u64 0), (.int .u64 0), (.int .u64 0), (.int .u64 0)]) (cs := c24 (Arr.rep 4 0)) pk_nil (show fillA (c24 (Arr.rep 4 0)) _ = _ from (fl_nil _))) ?_
    refine rn 1 rfl ?_
    refine sr hs 0 rfl rfl rfl (cs' := c24 (Arr.rep 4 0)) rfl rfl fun st hs => ?_
    refine rn 2 rfl ?_
    cases hF
    exact rD (rl_cellN rfl (hs.g 0 rfl) (LR.whole _ _) (c24_len _) (rlt (rlt rl0))) rfl
noncomputable def F46 (s : Str) (i : Int) : Option (Arr 4 Int × Int × Bool) :=
 (G46 (.p1 s i (IntKind.wrap .i64 (i + 2)) (Arr.rep 4 0)))
theorem d46 (s : Str) (i : Int) (r : Arr 4 Int × Int × Bool) (hF : F46 s i = some r) : DFun Try.prog noG 46 [AV.str s, AV.int .i64 i] (AV.tup [v24 r.1, AV.int .i64 r.2.1, AV.bool r.2.2]) := by
 unfold F46 at hF
 refine bD k46 rfl ?_
 have hs : SH [] [] := SH.nil
 generalize ([] : Store) = st at hs ⊢
 refine rn 0 rfl ?_
 refine al hs (cs := c24 (Arr.rep 4 0)) rfl fun st b_1 hs => ?_
 refine rn 5 rfl ?_
 exact w46 (.p1 s i (IntKind.wrap .i64 (i + 2)) (Arr.rep 4 0)) _ hF _ _ b_1 ⟨rfl, rfl, rfl, rfl, trivial⟩ hs
/-! ### 40: paddock/paddockref07.item -/
def C40_37 : ACode := .s (.ops [q 80 (.mv 14), q 81 (.bslice 1 1 false [(.int .u8 0)] [(0, (1, 80))] false), qc 82 13 [81], q 83 (.mv 15), q0 (.store 4 4 82), q 5 (.mv 83), q 6 (.mv (ki 0)), q 7 (.mv (.c (.bool true)))]) .ret
def C40_47 : ACode := .s (.ops [q 99 (.build [(.int .u64 0), (.int .u64 0), (.int .u64 0), (.int .u64 0)] []), q 100 (.mv 15), q 101 (.binI .add 100 (ki 1)), q0 (.store 4 4 99), q 5 (.mv (ki 0)), q 6 (.mv 101), q 7 (.mv (.c (.bool false)))]) .ret
def C40_51 : ACode := .s (.ops [q 102 (.mv 14), q 103 (.mv 17), qc 104 21 [102, 103], q 105 (.mv 18), q0 (.store 4 4 104), q 5 (.mv 105), q 6 (.mv (ki 0)), q 7 (.mv (.c (.bool true)))]) .ret
def C40_41 : ACode := .s (.ops [q 85 (.mv 0), q 86 (.mv 15), q 87 (.binI .add 86 (ki 1)), qc 88 48 [85, 87], q 84 (.mv 88), q 89 (.extract 84 0), q 90 (.extract 84 1), q 91 (.extract 84 2), q 17 (.mv 89), q 18 (.mv 90), q 16 (.mv 91)]) (.s (.s (.ops [q 92 (.mv 16), q 93 (.un .not 92), q 94 (.mv 93), (q 95 (.mv 17)).n 94, (q 96 (.mv 14)).n 94, (q 97 (.binI .lss 95 96)).n 94, q 98 (.pick 94 (.c (.bool true)) 97)]) (.cond 98 C40_47 .skip)) C40_51)
def C40_1 : ACode := .s (.ops [q 4 (.alloc [(.int .u64 0), (.int .u64 0), (.int .u64 0), (.int .u64 0)]), q 5 (.mv (ki 0)), q 6 (.mv (ki 0)), q 7 (.mv (.c (.bool false)))]) (.s (.s (.ops [q 19 (.mv 0), q 20 (.mv 1), qc 21 45 [19, 20], q 22 (.binI .eql 21 (ku 58))]) (.cond 22 (.s (.ops [q 24 (.mv 0), q 25 (.mv 1), qc 26 46 [24, 25], q 23 (.mv 26), q 27 (.extract 23 0), q 28 (.extract 23 1), q 29 (.extract 23 2), q 8 (.alloc [(.int .u64 0), (.int .u64 0), (.int .u64 0), (.int .u64 0)]), q0 (.store 4 8 27), q 9 (.mv 28), q 10 (.mv 29)]) (.s (.ops [q 30 (.loadN 4 8), q 31 (.mv 9), q 32 (.mv 1), q 33 (.mv 10), q0 (.store 4 4 30), q 5 (.mv 31), q 6 (.mv 32), q 7 (.mv 33)]) .ret)) .skip)) (.s (.s (.ops [q 34 (.mv 0), q 35 (.mv 1), qc 36 45 [34, 35], q 37 (.binI .eql 36 (ku 61))]) (.cond 37 (.s (.ops [q 39 (.mv 0), q 40 (.mv 1), qc 41 47 [39, 40], q 38 (.mv 41), q 42 (.extract 38 0), q 43 (.extract 38 1), q 44 (.extract 38 2), q 11 (.mv 42), q 12 (.mv 43), q 13 (.mv 44)]) (.s (.ops [q 45 (.mv 11), q 46 (.bslice 1 1 false [(.int .u8 0)] [(0, (1, 45))] false), qc 47 13 [46], q 48 (.mv 12), q 49 (.mv 1), q 50 (.mv 13), q0 (.store 4 4 47), q 5 (.mv 48), q 6 (.mv 49), q 7 (.mv 50)]) .ret)) .skip)) (.s (.ops [q 52 (.mv 0), q 53 (.mv 1), qc 54 48 [52, 53], q 51 (.mv 54), q 55 (.extract 51 0), q 56 (.extract 51 1), q 57 (.extract 51 2), q 14 (.mv 55), q 15 (.mv 56), q 16 (.mv 57)]) (.s (.s (.ops [q 58 (.mv 16), q 59 (.un .not 58)]) (.cond 59 (.s (.ops [q 60 (.build [(.int .u64 0), (.int .u64 0), (.int .u64 0), (.int .u64 0)] []), q 61 (.mv 1), q0 (.store 4 4 60), q 5 (.mv (ki 0)), q 6 (.mv 61), q 7 (.mv (.c (.bool false)))]) .ret) .skip)) (.s (.s (.ops [q 62 (.mv 15), q 63 (.binI .add 62 (ki 1)), q 64 (.mv 0), q 65 (.lenS 64), q 66 (.binI .geq 63 65), q 67 (.mv 66), (q 68 (.mv 0)).n 67, (q 69 (.mv 15)).n 67, (q 70 (.ixS 68 69)).n 67, (q 71 (.binI .neq 70 (ku 45))).n 67, q 72 (.pick 67 (.c (.bool true)) 71), q 73 (.mv 72), (q 74 (.mv 0)).n 73, (q 75 (.mv 15)).n 73, (q 76 (.binI .add 75 (ki 1))).n 73, (q 77 (.ixS 74 76)).n 73, (q 78 (.binI .eql 77 (ku 93))).n 73, q 79 (.pick 73 (.c (.bool true)) 78)]) (.cond 79 C40_37 .skip)) C40_41)))))
def R40 : List RA := [(.cellN 4 4), (.tmp 5), (.tmp 6), (.tmp 7)]
theorem k40 : compF Try.prog (muL []) 40 = some ⟨106, C40_1, R40⟩ := by kernel_rfl
noncomputable abbrev X40 (r : Arr 4 Int × Int × Int × Bool) : Cx := cD Try.prog noG 106 R40 (AV.tup [v24 r.1, AV.int .i64 r.2.1, AV.int .i64 r.2.2.1, AV.bool r.2.2.2])
inductive St40 where
 | p1 (from_ : Int) (next : Int) (t4_ : Arr 4 Int)
 | p2 (next : Int) (t4_ : Arr 4 Int)
noncomputable def G40 : St40 → Option (Arr 4 Int × Int × Int × Bool)
 | .p1 from_ next t4_ =>
  (F13 (some ([from_] : List Int)) >>= fun r_33 =>
   (some (r_33, next, 0, true)))
 | .p2 next t4_ =>
  (some ((Arr.rep 4 0), 0, IntKind.wrap .i64 (next + 1), false))
def M40 (x : St40) (r : Arr 4 Int × Int × Int × Bool) : Prop := match x with
 | .p1 from_ next t4_ => ∀ (tm : Fr) (st : Store) (io0 : Nat), Frm tm [(4, .ptr io0 0), (14, AV.int .u8 from_), (15, AV.int .i64 next)] → SH st [pt io0 (.cells (c24 t4_))] → W (X40 r) [.code C40_37, .code C40_41] tm st
 | .p2 next t4_ => ∀ (tm : Fr) (st : Store) (io0 : Nat), Frm tm [(4, .ptr io0 0), (15, AV.int .i64 next)] → SH st [pt io0 (.cells (c24 t4_))] → W (X40 r) [.code C40_47, .code C40_51] tm st
theorem w40 : ∀ (x : St40) (r : Arr 4 Int × Int × Int × Bool), G40 x = some r → M40 x r := by
 intro x r hF
 cases x with
 | p1 from_ next t4_ =>
  dsimp only [G40] at hF
  intro tm st io0 hf hs
  refine en hf ?_
  refine rn 1 rfl ?_
  refine bs (f := AV.int .u8) ([from_] : List Int) hs rfl rfl rfl rfl fun st b_32 hs => ?_
  obtain ⟨r_33, g_34, hF⟩ := bind_some hF
  refine df' (d13 (some ([from_] : List Int)) _ g_34) (ds := [slV 1 (AV.int .u8) (some ([from_] : List Int))]) (dsl_cons (dsw (es := 1) (f := AV.int .u8) (o := (some ([from_] : List Int))) (id := b_32)) dsl_nil) ?_
  refine rn 1 rfl ?_
  refine sr hs 1 rfl rfl rfl (cs' := c24 r_33) rfl rfl fun st hs => ?_
  refine rn 3 rfl ?_
  cases hF
  exact rD (rl_cellN rfl (hs.g 1 rfl) (LR.whole _ _) (c24_len _) (rlt (rlt (rlt rl0)))) rfl
 | p2 next t4_ =>
  dsimp only [G40] at hF
  intro tm st io0 hf hs
  refine en hf ?_
  refine rn 0 rfl ?_
  refine W.o (e_build (z := [(.int .u64 0), (.int .u64 0), (.int .u64 0), (.int .u64 0)]) (cs := c24 (Arr.rep 4 0)) pk_nil (show fillA (c24 (Arr.rep 4 0)) _ = _ from (fl_nil _))) ?_
  refine rn 2 rfl ?_
  refine sr hs 0 rfl rfl rfl (cs' := c24 (Arr.rep 4 0)) rfl rfl fun st hs => ?_
  refine rn 3 rfl ?_
  cases hF
  exact rD (rl_cellN rfl (hs.g 0 rfl) (LR.whole _ _) (c24_len _) (rlt (rlt (rlt rl0)))) rfl
noncomputable def F40 (s : Str) (i : Int) : Option (Arr 4 Int × Int × Int × Bool) :=
 (F45 s i >>= fun r_2 =>
  (if (r_2 == 58) = true then
   (F46 s i >>= fun r_5 =>
    (some (r_5.1, r_5.2.1, i, r_5.2.2)))
  else
   (F45 s i >>= fun r_8 =>
    (if (r_8 == 61) = true then
     (F47 s i >>= fun r_11 =>
      (F13 (some ([r_11.1] : List Int)) >>= fun r_14 =>
       (some (r_14, r_11.2.1, i, r_11.2.2))))
    else
     (F48 s i >>= fun r_16 =>
      (if (!r_16.2.2) = true then
       (some ((Arr.rep 4 0), 0, i, false))
      else
       (if (decide ((IntKind.wrap .i64 (r_16.2.1 + 1)) ≥ ((s).length : Int))) = true then
        (G40 (.p1 r_16.1 r_16.2.1 (Arr.rep 4 0)))
       else
        (ix s r_16.2.1 >>= fun b_20 =>
         (if ((b_20.toNat : Int) != 45) = true then
          (G40 (.p1 r_16.1 r_16.2.1 (Arr.rep 4 0)))
         else
          (ix s (IntKind.wrap .i64 (r_16.2.1 + 1)) >>= fun b_23 =>
           (if ((b_23.toNat : Int) == 93) = true then
            (G40 (.p1 r_16.1 r_16.2.1 (Arr.rep 4 0)))
           else
            (F48 s (IntKind.wrap .i64 (r_16.2.1 + 1)) >>= fun r_26 =>
             (if (!r_26.2.2) = true then
              (G40 (.p2 r_16.2.1 (Arr.rep 4 0)))
             else
              (if (decide (r_26.1 < r_16.1)) = true then
               (G40 (.p2 r_16.2.1 (Arr.rep 4 0)))
              else
               (F21 r_16.1 r_26.1 >>= fun r_30 =>
                (some (r_30, r_26.2.1, 0, true)))))))))))))))))
theorem d40 (s : Str) (i : Int) (r : Arr 4 Int × Int × Int × Bool) (hF : F40 s i = some r) : DFun Try.prog noG 40 [AV.str s, AV.int .i64 i] (AV.tup [v24 r.1, AV.int .i64 r.2.1, AV.int .i64 r.2.2.1, AV.bool r.2.2.2]) := by
 unfold F40 at hF
 refine bD k40 rfl ?_
 have hs : SH [] [] := SH.nil
 generalize ([] : Store) = st at hs ⊢
 refine rn 0 rfl ?_
 refine al hs (cs := c24 (Arr.rep 4 0)) rfl fun st b_1 hs => ?_
 obtain ⟨r_2, g_3, hF⟩ := bind_some hF
 refine rn 5 rfl ?_
 refine df (d45 s i _ g_3) rfl ?_
 refine rn 1 rfl ?_
 refine ci hF rfl (fun c_4 hF => ?_) (fun c_4 hF => ?_)
 · obtain ⟨r_5, g_6, hF⟩ := bind_some hF
   refine rn 2 rfl ?_
   refine df (d46 s i _ g_6) rfl ?_
   refine rn 4 rfl ?_
   refine al hs (cs := c24 (Arr.rep 4 0)) rfl fun st b_7 hs => ?_
   refine sr hs 0 rfl rfl rfl (cs' := c24 r_5.1) rfl rfl fun st hs => ?_
   refine rn 2 rfl ?_
   refine W.o (lN (s := c24 r_5.1) rfl (hs.g 0 rfl) rfl rfl) ?_
   refine rn 3 rfl ?_
   refine sr hs 1 rfl rfl rfl (cs' := c24 r_5.1) rfl rfl fun st hs => ?_
   refine rn 3 rfl ?_
   cases hF
   exact rD (rl_cellN rfl (hs.g 1 rfl) (LR.whole _ _) (c24_len _) (rlt (rlt (rlt rl0)))) rfl
 · obtain ⟨r_8, g_9, hF⟩ := bind_some hF
   refine rn 2 rfl ?_
   refine df (d45 s i _ g_9) rfl ?_
   refine rn 1 rfl ?_
   refine ci hF rfl (fun c_10 hF => ?_) (fun c_10 hF => ?_)
   · obtain ⟨r_11, g_12, hF⟩ := bind_some hF
     refine rn 2 rfl ?_
     refine df (d47 s i _ g_12) rfl ?_
     refine rn 8 rfl ?_
     refine bs (f := AV.int .u8) ([r_11.1] : List Int) hs rfl rfl rfl rfl fun st b_13 hs => ?_
     obtain ⟨r_14, g_15, hF⟩ := bind_some hF
     refine df' (d13 (some ([r_11.1] : List Int)) _ g_15) (ds := [slV 1 (AV.int .u8) (some ([r_11.1] : List Int))]) (dsl_cons (dsw (es := 1) (f := AV.int .u8) (o := (some ([r_11.1] : List Int))) (id := b_13)) dsl_nil) ?_
     refine rn 3 rfl ?_
     refine sr hs 1 rfl rfl rfl (cs' := c24 r_14) rfl rfl fun st hs => ?_
     refine rn 3 rfl ?_
     cases hF
     exact rD (rl_cellN rfl (hs.g 1 rfl) (LR.whole _ _) (c24_len _) (rlt (rlt (rlt rl0)))) rfl
   · obtain ⟨r_16, g_17, hF⟩ := bind_some hF
     refine rn 2 rfl ?_
     refine df (d48 s i _ g_17) rfl ?_
     refine rn 9 rfl ?_
     refine ci hF rfl (fun c_18 hF => ?_) (fun c_18 hF => ?_)
     · refine rn 0 rfl ?_
       refine W.o (e_build (z := [(.int .u64 0), (.int .u64 0), (.int .u64 0), (.int .u64 0)]) (cs := c24 (Arr.rep 4 0)) pk_nil (show fillA (c24 (Arr.rep 4 0)) _ = _ from (fl_nil _))) ?_
       refine rn 1 rfl ?_
       refine sr hs 0 rfl rfl rfl (cs' := c24 (Arr.rep 4 0)) rfl rfl fun st hs => ?_
       refine rn 3 rfl ?_
       cases hF
       exact rD (rl_cellN rfl (hs.g 0 rfl) (LR.whole _ _) (c24_len _) (rlt (rlt (rlt rl0)))) rfl
     · refine rn 6 rfl ?_
       refine bi hF (fun c_19 hF => ?_) (fun c_19 hF => ?_)
       · refine wfx 67 rfl c_19 ?_
         refine rn 12 rfl ?_
         refine ct rfl rfl ?_
         exact w40 (.p1 r_16.1 r_16.2.1 (Arr.rep 4 0)) _ hF _ _ b_1 ⟨rfl, rfl, rfl, trivial⟩ hs
       · refine wfx 67 rfl c_19 ?_
         obtain ⟨b_20, g_21, hF⟩ := bind_some hF
         refine rn 2 rfl ?_
         refine W.on rfl rfl ?_
         refine W.o (e_ixS rfl rfl g_21) ?_
         refine rn 3 rfl ?_
         refine bi hF (fun c_22 hF => ?_) (fun c_22 hF => ?_)
         · refine wfx 73 rfl c_22 ?_
           refine rn 6 rfl ?_
           refine ct rfl rfl ?_
           exact w40 (.p1 r_16.1 r_16.2.1 (Arr.rep 4 0)) _ hF _ _ b_1 ⟨rfl, rfl, rfl, trivial⟩ hs
         · refine wfx 73 rfl c_22 ?_
           obtain ⟨b_23, g_24, hF⟩ := bind_some hF
           refine rn 3 rfl ?_
           refine W.on rfl rfl ?_
           refine W.o (e_ixS rfl rfl g_24) ?_
           refine rn 2 rfl ?_
           refine ci hF rfl (fun c_25 hF => ?_) (fun c_25 hF => ?_)
           · exact w40 (.p1 r_16.1 r_16.2.1 (Arr.rep 4 0)) _ hF _ _ b_1 ⟨rfl, rfl, rfl, trivial⟩ hs
           · obtain ⟨r_26, g_27, hF⟩ := bind_some hF
             refine rn 3 rfl ?_
             refine df (d48 s (IntKind.wrap .i64 (r_16.2.1 + 1)) _ g_27) rfl ?_
             refine rn 10 rfl ?_
             refine bi hF (fun c_28 hF => ?_) (fun c_28 hF => ?_)
             · refine wfx 94 rfl c_28 ?_
               refine rn 4 rfl ?_
               refine ct rfl rfl ?_
               exact w40 (.p2 r_16.2.1 (Arr.rep 4 0)) _ hF _ _ b_1 ⟨rfl, rfl, trivial⟩ hs
             · refine wfx 94 rfl c_28 ?_
               refine rn 4 rfl ?_
               refine ci hF rfl (fun c_29 hF => ?_) (fun c_29 hF => ?_)
               · exact w40 (.p2 r_16.2.1 (Arr.rep 4 0)) _ hF _ _ b_1 ⟨rfl, rfl, trivial⟩ hs
               · obtain ⟨r_30, g_31, hF⟩ := bind_some hF
                 refine rn 2 rfl ?_
                 refine df (d21 r_16.1 r_26.1 _ g_31) rfl ?_
                 refine rn 1 rfl ?_
                 refine sr hs 0 rfl rfl rfl (cs' := c24 r_30) rfl rfl fun st hs => ?_
                 refine rn 3 rfl ?_
                 cases hF
                 exact rD (rl_cellN rfl (hs.g 0 rfl) (LR.whole _ _) (c24_len _) (rlt (rlt (rlt rl0)))) rfl
end Go.Proofs.Ytfjdegohjnejkaa
