/-
  Functions of the program's as plain functions.
-/
import Derived.Test.YtllhdbdbdblimaaDoorD2
set_option linter.unusedVariables false
set_option maxRecDepth 4000
set_option maxHeartbeats 4000000
namespace Go.Proofs.YtllhdbdbdblimaaDoor
open Go AW
attribute [local irreducible] W WD SH XS XLoop DFun XCall
/-! ### 30: paddock/lines.Unified -/
def C30_54 : ACode := .s (.cond 88 .skip (.exit 2)) (.s (.block 3 (.s (.ops [q 89 (.iaddrL 3 85 87), q 90 (.loadN 3 89), q 20 (.alloc [(.int .u8 0), (.str []), (.bool false)]), q0 (.store 3 20 90)]) (.s (.draw [] 0 0 [q 91 (.faddr 0 20), q 92 (.load1 91), q 93 (.iaddrA 4 1 (.c (.gptr 0 0)) 92), q 94 (.load1 93), q 95 (.faddr 1 20), q 96 (.faddr 0 95), q 97 (.load1 96), q 98 (.binS .add 94 97), q 99 (.binS .add 98 (.c (.str [10])))] [qc 100 40 [12, 99]]) (.s (.ops [q 101 (.faddr 1 20), q 102 (.faddr 1 101), q 103 (.load1 102), q 104 (.un .not 103)]) (.cond 104 (.ops [qc 105 40 [12, (.c (.str [92, 32, 78, 111, 32, 110, 101, 119, 108, 105, 110, 101, 32, 97, 116, 32, 101, 110, 100, 32, 111, 102, 32, 102, 105, 108, 101, 10]))]]) .skip))))) (.ops [q 106 (.binI .add 87 (ki 1)), q 87 (.mv 106)]))
def C30_52 : ACode := .s (.ops [q 88 (.binI .lss 87 86)]) C30_54
def C30_70 : ACode := .ops [q 107 (.binI .add 54 (ki 1)), q 54 (.mv 107)]
def C30_32 : ACode := .s (.cond 55 .skip (.exit 0)) (.s (.block 1 (.s (.ops [q 56 (.iaddrL 2 52 54), q 57 (.loadN 2 56), q 14 (.alloc [(.int .i64 0), (.int .i64 0)]), q0 (.store 2 14 57)]) (.s (.draw [] 0 0 [q 58 (.mv 10), q 59 (.iaddrA 2 1 14 (ki 0)), q 60 (.load1 59), q 61 (.slL 3 58 .none (.some 60)), q 62 (.mv 10), q 63 (.iaddrA 2 1 14 (ki 0)), q 64 (.load1 63), q 65 (.iaddrA 2 1 14 (ki 1)), q 66 (.load1 65), q 67 (.slL 3 62 (.some 64) (.some 66)), q 15 (.mv 61), q 16 (.mv 67)] []) (.s (.ops [q 68 (.mv 15), qc 69 49 [68, (ku 3)], q 70 (.mv 16), qc 71 49 [70, (ku 3)], qc 72 48 [69, 71], q 17 (.mv 72)]) (.s (.ops [q 73 (.mv 15), qc 74 49 [73, (ku 2)], q 75 (.mv 16), qc 76 49 [75, (ku 2)], qc 77 48 [74, 76], q 18 (.mv 77)]) (.s (.ops [q 78 (.mv 17), q 79 (.binS .add (.c (.str [64, 64, 32, 45])) 78), q 80 (.binS .add 79 (.c (.str [32, 43]))), q 81 (.mv 18), q 82 (.binS .add 80 81), q 83 (.binS .add 82 (.c (.str [32, 64, 64, 10]))), qc 84 40 [12, 83]]) (.s (.ops [q 85 (.mv 16), q 86 (.len 85), q 87 (.mv (ki 0))]) (.block 2 (.loop C30_52))))))))) C30_70)
def C30_30 : ACode := .s (.ops [q 55 (.binI .lss 54 53)]) C30_32
def C30_71 : ACode := .s (.ops [qc 108 42 [12], q 8 (.mv 108), q 9 (.mv (ki 0))]) .ret
def C30_1 : ACode := .s (.ops [q 8 (.mv (.c (.str []))), q 9 (.mv (ki 0))]) (.s (.s (.ops [q 21 (.mv 3), q 22 (.binI .lss 21 (ki 0)), q 23 (.mv 22), (q 24 (.mv 3)).n 23, (q 25 (.binI .gtr 24 (ki 4096))).n 23, q 26 (.pick 23 (.c (.bool true)) 25)]) (.cond 26 (.s (.ops [q 8 (.mv (.c (.str []))), q 9 (.mv (ki 2))]) .ret) .skip)) (.s (.ops [q 28 (.mv 1), q 29 (.mv 2), qc 30 33 [28, 29], q 27 (.mv 30), q 31 (.extract 27 0), q 32 (.extract 27 1), q 10 (.mv 31), q 11 (.mv 32)]) (.s (.s (.ops [q 33 (.mv 11), q 34 (.binI .neq 33 (ki 0)), q 35 (.mv 34), (q 36 (.mv 1)).n 35, (q 37 (.mv 2)).n 35, (q 38 (.binS .eql 36 37)).n 35, q 39 (.pick 35 (.c (.bool true)) 38)]) (.cond 39 (.s (.ops [q 40 (.mv 11), q 8 (.mv (.c (.str []))), q 9 (.mv 40)]) .ret) .skip)) (.s (.ops [q 12 (.allocB 60 2 [.nilptr, .nils])]) (.s (.ops [q 41 (.mv 0), qc 42 24 [41], q 43 (.binS .add (.c (.str [45, 45, 45, 32])) 42), q 44 (.binS .add 43 (.c (.str [10, 43, 43, 43, 32]))), q 45 (.mv 0), qc 46 24 [45], q 47 (.binS .add 44 46), q 48 (.binS .add 47 (.c (.str [10]))), qc 49 40 [12, 48]]) (.s (.s (.ops [q 50 (.mv 10), q 51 (.mv 3), qc 52 47 [50, 51], q 53 (.len 52), q 54 (.mv (ki 0))]) (.block 0 (.loop C30_30))) C30_71))))))
def R30 : List RA := [(.tmp 8), (.tmp 9)]
theorem k30 : compF Tryd.prog (muL []) 30 = some ⟨109, C30_1, R30⟩ := by kernel_rfl
noncomputable abbrev X30 (r : Str × Int) : Cx := cD Tryd.prog gE 109 R30 (AV.tup [AV.str r.1, AV.int .i64 r.2])
inductive St30 where
 | p1 (l : Sl T54) (t52_ : Sl (Arr 2 Int)) (t53_ : Int) (t54_ : Int) (out : Str)
 | p2 (l : Sl T54) (t52_ : Sl (Arr 2 Int)) (t53_ : Int) (t54_ : Int) (t85_ : Sl T54) (t86_ : Int) (t87_ : Int) (out : Str)
noncomputable def G30 : St30 → Option (Str × Int)
 | .p1 l t52_ t53_ t54_ out =>
  (if (decide (t54_ < t53_)) = true then
   (ix (ls t52_) t54_ >>= fun v_21 =>
    (if (0 : Int) ≤ 0 ∧ 0 < (2 : Int) then
     (ix v_21.l 0 >>= fun v_25 =>
      (scut l 0 v_25 >>= fun w_27 =>
       (if (0 : Int) ≤ 0 ∧ 0 < (2 : Int) then
        (ix v_21.l 0 >>= fun v_30 =>
         (if (0 : Int) ≤ 1 ∧ 1 < (2 : Int) then
          (ix v_21.l 1 >>= fun v_33 =>
           (scut l v_30 v_33 >>= fun w_35 =>
            (F49 w_27 3 >>= fun r_37 =>
             (F49 w_35 3 >>= fun r_39 =>
              (F48 r_37 r_39 >>= fun r_41 =>
               (F49 w_27 2 >>= fun r_43 =>
                (F49 w_35 2 >>= fun r_45 =>
                 (F48 r_43 r_45 >>= fun r_47 =>
                  (if (([64, 64, 32, 45] : Str)).length + (r_41).length ≤ 9223372036854775807 then
                   (if (([64, 64, 32, 45] : Str) ++ r_41).length + (([32, 43] : Str)).length ≤ 9223372036854775807 then
                    (if ((([64, 64, 32, 45] : Str) ++ r_41) ++ ([32, 43] : Str)).length + (r_47).length ≤ 9223372036854775807 then
                     (if (((([64, 64, 32, 45] : Str) ++ r_41) ++ ([32, 43] : Str)) ++ r_47).length + (([32, 64, 64, 10] : Str)).length ≤ 9223372036854775807 then
                      (bWS out ((((([64, 64, 32, 45] : Str) ++ r_41) ++ ([32, 43] : Str)) ++ r_47) ++ ([32, 64, 64, 10] : Str)) >>= fun r_53 =>
                       (G30 (.p2 l t52_ t53_ t54_ w_35 ((ls w_35).length : Int) 0 r_53.2.2)))
                     else none)
                    else none)
                   else none)
                  else none)))))))))
         else none))
       else none)))
    else none))
  else
   (bST out >>= fun r_55 =>
    (some (r_55, 0))))
 | .p2 l t52_ t53_ t54_ t85_ t86_ t87_ out =>
  (if (decide (t87_ < t86_)) = true then
   (ix (ls t85_) t87_ >>= fun v_58 =>
    (if (0 : Int) ≤ v_58.Kind ∧ v_58.Kind < (4 : Int) then
     (ix g0.l v_58.Kind >>= fun v_62 =>
      (if (v_62).length + (v_58.Line.Text).length ≤ 9223372036854775807 then
       (if (v_62 ++ v_58.Line.Text).length + (([10] : Str)).length ≤ 9223372036854775807 then
        (bWS out ((v_62 ++ v_58.Line.Text) ++ ([10] : Str)) >>= fun r_66 =>
         (if (!v_58.Line.Whole) = true then
          (bWS r_66.2.2 ([92, 32, 78, 111, 32, 110, 101, 119, 108, 105, 110, 101, 32, 97, 116, 32, 101, 110, 100, 32, 111, 102, 32, 102, 105, 108, 101, 10] : Str) >>= fun r_69 =>
           (G30 (.p2 l t52_ t53_ t54_ t85_ t86_ (IntKind.wrap .i64 (t87_ + 1)) r_69.2.2)))
         else
          (G30 (.p2 l t52_ t53_ t54_ t85_ t86_ (IntKind.wrap .i64 (t87_ + 1)) r_66.2.2))))
       else none)
      else none))
    else none))
  else
   (G30 (.p1 l t52_ t53_ (IntKind.wrap .i64 (t54_ + 1)) out)))
 partial_fixpoint
def M30 (x : St30) (r : Str × Int) : Prop := match x with
 | .p1 l t52_ t53_ t54_ out => ∀ (tm : Fr) (st : Store) (io0 : Nat), Frm tm [(10, slV 3 v54 l), (12, .ptr io0 0), (52, slV 2 v74 t52_), (53, AV.int .i64 t53_), (54, AV.int .i64 t54_)] → SH st [bldA 60 5 io0 out] → W (X30 r) [.lp C30_30, .blk 0, .code C30_71] tm st
 | .p2 l t52_ t53_ t54_ t85_ t86_ t87_ out => ∀ (tm : Fr) (st : Store) (io0 : Nat), Frm tm [(10, slV 3 v54 l), (12, .ptr io0 0), (52, slV 2 v74 t52_), (53, AV.int .i64 t53_), (54, AV.int .i64 t54_), (85, slV 3 v54 t85_), (86, AV.int .i64 t86_), (87, AV.int .i64 t87_)] → SH st [bldA 60 5 io0 out] → W (X30 r) [.lp C30_52, .blk 2, .blk 1, .code C30_70, .lp C30_30, .blk 0, .code C30_71] tm st
theorem w30 : ∀ (x : St30) (r : Str × Int), G30 x = some r → M30 x r := by
 refine G30.partial_correctness M30 ?_
 intro g ih x r hF
 cases x with
 | p1 l t52_ t53_ t54_ out =>
  dsimp only at hF
  intro tm st io0 hf hs
  refine en hf ?_
  refine lp ?_
  refine rn 1 rfl ?_
  refine ci hF rfl (fun c_20 hF => ?_) (fun c_20 hF => ?_)
  · obtain ⟨v_21, g_22, hF⟩ := bind_some hF
    refine rn 0 rfl ?_
    refine W.o (e_iaddrL (rd_V rfl) rfl g_22) ?_
    refine W.o (lND (s := c74 v_21) rfl rfl rfl) ?_
    refine al hs (cs := c74 (Arr.rep 2 0)) rfl fun st b_23 hs => ?_
    refine sr hs 0 rfl rfl rfl (cs' := c74 v_21) rfl rfl fun st hs => ?_
    refine rn 0 rfl ?_
    have h0 := hs
    refine dr0 ?_
    obtain ⟨g_24, hF⟩ := grd_some hF
    refine dn 1 rfl ?_
    refine de rfl (e_iaddrA rfl (h0.g 0 rfl) rfl g_24) ?_
    obtain ⟨v_25, g_26, hF⟩ := bind_some hF
    refine de rfl (e_load1 rfl (h0.g 0 rfl) (LR.comp (LR.whole _ _) (lrF_get (cI_len .i64) g_26))) ?_
    obtain ⟨w_27, g_28, hF⟩ := bind_some hF
    refine de rfl (e_slLh (rd_V rfl) rfl g_28) ?_
    obtain ⟨g_29, hF⟩ := grd_some hF
    refine dn 1 rfl ?_
    refine de rfl (e_iaddrA rfl (h0.g 0 rfl) rfl g_29) ?_
    obtain ⟨v_30, g_31, hF⟩ := bind_some hF
    refine de rfl (e_load1 rfl (h0.g 0 rfl) (LR.comp (LR.whole _ _) (lrF_get (cI_len .i64) g_31))) ?_
    obtain ⟨g_32, hF⟩ := grd_some hF
    refine de rfl (e_iaddrA rfl (h0.g 0 rfl) rfl g_32) ?_
    obtain ⟨v_33, g_34, hF⟩ := bind_some hF
    refine de rfl (e_load1 rfl (h0.g 0 rfl) (LR.comp (LR.whole _ _) (lrF_get (cI_len .i64) g_34))) ?_
    obtain ⟨w_35, g_36, hF⟩ := bind_some hF
    refine de rfl (e_slL2 (rd_V rfl) rfl rfl g_36) ?_
    refine dn 2 rfl ?_
    refine dz ?_
    obtain ⟨r_37, g_38, hF⟩ := bind_some hF
    refine rn 1 rfl ?_
    refine df (d49 w_27 3 _ g_38) rfl ?_
    obtain ⟨r_39, g_40, hF⟩ := bind_some hF
    refine rn 1 rfl ?_
    refine df (d49 w_35 3 _ g_40) rfl ?_
    obtain ⟨r_41, g_42, hF⟩ := bind_some hF
    refine df (d48 r_37 r_39 _ g_42) rfl ?_
    obtain ⟨r_43, g_44, hF⟩ := bind_some hF
    refine rn 2 rfl ?_
    refine df (d49 w_27 2 _ g_44) rfl ?_
    obtain ⟨r_45, g_46, hF⟩ := bind_some hF
    refine rn 1 rfl ?_
    refine df (d49 w_35 2 _ g_46) rfl ?_
    obtain ⟨r_47, g_48, hF⟩ := bind_some hF
    refine df (d48 r_43 r_45 _ g_48) rfl ?_
    obtain ⟨g_49, hF⟩ := grd_some hF
    refine rn 2 rfl ?_
    refine W.o (e_str rfl rfl (op_cat _ _ g_49)) ?_
    obtain ⟨g_50, hF⟩ := grd_some hF
    refine W.o (e_str rfl rfl (op_cat _ _ g_50)) ?_
    obtain ⟨g_51, hF⟩ := grd_some hF
    refine rn 1 rfl ?_
    refine W.o (e_str rfl rfl (op_cat _ _ g_51)) ?_
    obtain ⟨g_52, hF⟩ := grd_some hF
    refine W.o (e_str rfl rfl (op_cat _ _ g_52)) ?_
    obtain ⟨r_53, g_54, hF⟩ := bind_some hF
    refine cl (ale rfl) (dWS out ((((([64, 64, 32, 45] : Str) ++ r_41) ++ ([32, 43] : Str)) ++ r_47) ++ ([32, 64, 64, 10] : Str)) _ g_54 _ _ io0 (fun st hs => ?_) _ (hs.p 2 [1, 0] rfl))
    refine rn 1 rfl ?_
    refine W.o (e_len (rd_V rfl)) ?_
    refine rn 1 rfl ?_
    exact ih (.p2 l t52_ t53_ t54_ w_35 ((ls w_35).length : Int) 0 r_53.2.2) _ hF _ _ io0 ⟨rfl, rfl, rfl, rfl, rfl, rfl, rfl, rfl, trivial⟩ (hs.p 2 [0] rfl)
  · obtain ⟨r_55, g_56, hF⟩ := bind_some hF
    refine rn 0 rfl ?_
    refine cl (ale rfl) (dST out _ g_56 _ _ io0 (fun st hs => ?_) _ hs)
    refine rn 2 rfl ?_
    cases hF
    exact rD (rlt (rlt rl0)) rfl
 | p2 l t52_ t53_ t54_ t85_ t86_ t87_ out =>
  dsimp only at hF
  intro tm st io0 hf hs
  refine en hf ?_
  refine lp ?_
  refine rn 1 rfl ?_
  refine ci hF rfl (fun c_57 hF => ?_) (fun c_57 hF => ?_)
  · obtain ⟨v_58, g_59, hF⟩ := bind_some hF
    refine rn 0 rfl ?_
    refine W.o (e_iaddrL (rd_V rfl) rfl g_59) ?_
    refine W.o (lND (s := c54 v_58) rfl rfl rfl) ?_
    refine al hs (cs := c54 ({ Kind := 0, Line := ({ Text := [], Whole := false } : T25) } : T54)) rfl fun st b_60 hs => ?_
    refine sr hs 0 rfl rfl rfl (cs' := c54 v_58) rfl rfl fun st hs => ?_
    refine rn 0 rfl ?_
    have h0 := hs
    refine dr0 ?_
    refine de rfl (e_faddr rfl (h0.g 0 rfl)) ?_
    refine de rfl (l1 rfl (h0.g 0 rfl) rfl) ?_
    obtain ⟨g_61, hF⟩ := grd_some hF
    refine de rfl (e_iaddrAG rfl rfl g_61) ?_
    obtain ⟨v_62, g_63, hF⟩ := bind_some hF
    refine de rfl (e_load1G rfl (rfl : gE 0 = some (c77 g0)) (LR.comp (LR.whole _ _) (lrF_get cS_len g_63))) ?_
    refine de rfl (e_faddr rfl (h0.g 0 rfl)) ?_
    refine de rfl (e_faddr rfl (h0.g 0 rfl)) ?_
    refine de rfl (l1 rfl (h0.g 0 rfl) rfl) ?_
    obtain ⟨g_64, hF⟩ := grd_some hF
    refine de rfl (e_str rfl rfl (op_cat _ _ g_64)) ?_
    obtain ⟨g_65, hF⟩ := grd_some hF
    refine de rfl (e_str rfl rfl (op_cat _ _ g_65)) ?_
    refine dz ?_
    obtain ⟨r_66, g_67, hF⟩ := bind_some hF
    refine cl (ale rfl) (dWS out ((v_62 ++ v_58.Line.Text) ++ ([10] : Str)) _ g_67 _ _ io0 (fun st hs => ?_) _ (hs.p 2 [1, 0] rfl))
    refine rn 0 rfl ?_
    refine W.o (e_faddr rfl (hs.g 1 rfl)) ?_
    refine W.o (e_faddr rfl (hs.g 1 rfl)) ?_
    refine W.o (l1 rfl (hs.g 1 rfl) rfl) ?_
    refine rn 1 rfl ?_
    refine ci hF rfl (fun c_68 hF => ?_) (fun c_68 hF => ?_)
    · obtain ⟨r_69, g_70, hF⟩ := bind_some hF
      refine rn 0 rfl ?_
      refine cl (ale rfl) (dWS r_66.2.2 ([92, 32, 78, 111, 32, 110, 101, 119, 108, 105, 110, 101, 32, 97, 116, 32, 101, 110, 100, 32, 111, 102, 32, 102, 105, 108, 101, 10] : Str) _ g_70 _ _ io0 (fun st hs => ?_) _ hs)
      refine rn 2 rfl ?_
      exact ih (.p2 l t52_ t53_ t54_ t85_ t86_ (IntKind.wrap .i64 (t87_ + 1)) r_69.2.2) _ hF _ _ io0 ⟨rfl, rfl, rfl, rfl, rfl, rfl, rfl, rfl, trivial⟩ (hs.p 2 [0] rfl)
    · refine rn 2 rfl ?_
      exact ih (.p2 l t52_ t53_ t54_ t85_ t86_ (IntKind.wrap .i64 (t87_ + 1)) r_66.2.2) _ hF _ _ io0 ⟨rfl, rfl, rfl, rfl, rfl, rfl, rfl, rfl, trivial⟩ (hs.p 2 [0] rfl)
  · refine rn 2 rfl ?_
    exact ih (.p1 l t52_ t53_ (IntKind.wrap .i64 (t54_ + 1)) out) _ hF _ _ io0 ⟨rfl, rfl, rfl, rfl, rfl, trivial⟩ hs
noncomputable def F30 (name : Str) (a : Str) (b : Str) (around : Int) : Option (Str × Int) :=
 (if (decide (around < 0)) = true then
  (some (([] : Str), 2))
 else
  (if (decide (around > 4096)) = true then
   (some (([] : Str), 2))
  else
   (F33 a b >>= fun r_3 =>
    (if (r_3.2 != 0) = true then
     (some (([] : Str), r_3.2))
    else
     (if (a == b) = true then
      (some (([] : Str), r_3.2))
     else
      (F24 name >>= fun r_8 =>
       (if (([45, 45, 45, 32] : Str)).length + (r_8).length ≤ 9223372036854775807 then
        (if (([45, 45, 45, 32] : Str) ++ r_8).length + (([10, 43, 43, 43, 32] : Str)).length ≤ 9223372036854775807 then
         (F24 name >>= fun r_12 =>
          (if ((([45, 45, 45, 32] : Str) ++ r_8) ++ ([10, 43, 43, 43, 32] : Str)).length + (r_12).length ≤ 9223372036854775807 then
           (if (((([45, 45, 45, 32] : Str) ++ r_8) ++ ([10, 43, 43, 43, 32] : Str)) ++ r_12).length + (([10] : Str)).length ≤ 9223372036854775807 then
            (bWS ([] : Str) ((((([45, 45, 45, 32] : Str) ++ r_8) ++ ([10, 43, 43, 43, 32] : Str)) ++ r_12) ++ ([10] : Str)) >>= fun r_16 =>
             (F47 r_3.1 around >>= fun r_18 =>
              (G30 (.p1 r_3.1 r_18 ((ls r_18).length : Int) 0 r_16.2.2))))
           else none)
          else none))
        else none)
       else none)))))))
theorem d30 (name : Str) (a : Str) (b : Str) (around : Int) (r : Str × Int) (hF : F30 name a b around = some r) : DFun Tryd.prog gE 30 [AV.str name, AV.str a, AV.str b, AV.int .i64 around] (AV.tup [AV.str r.1, AV.int .i64 r.2]) := by
 unfold F30 at hF
 refine bD k30 rfl ?_
 have hs : SH [] [] := SH.nil
 generalize ([] : Store) = st at hs ⊢
 refine rn 5 rfl ?_
 refine bi hF (fun c_1 hF => ?_) (fun c_1 hF => ?_)
 · refine wfx 23 rfl c_1 ?_
   refine rn 3 rfl ?_
   refine ct rfl rfl ?_
   refine rn 2 rfl ?_
   cases hF
   exact rD (rlt (rlt rl0)) rfl
 · refine wfx 23 rfl c_1 ?_
   refine rn 3 rfl ?_
   refine ci hF rfl (fun c_2 hF => ?_) (fun c_2 hF => ?_)
   · refine rn 2 rfl ?_
     cases hF
     exact rD (rlt (rlt rl0)) rfl
   · obtain ⟨r_3, g_4, hF⟩ := bind_some hF
     refine rn 2 rfl ?_
     refine df (d33 a b _ g_4) rfl ?_
     refine rn 8 rfl ?_
     refine bi hF (fun c_5 hF => ?_) (fun c_5 hF => ?_)
     · refine wfx 35 rfl c_5 ?_
       refine rn 4 rfl ?_
       refine ct rfl rfl ?_
       refine rn 3 rfl ?_
       cases hF
       exact rD (rlt (rlt rl0)) rfl
     · refine wfx 35 rfl c_5 ?_
       refine rn 4 rfl ?_
       refine ci hF rfl (fun c_6 hF => ?_) (fun c_6 hF => ?_)
       · refine rn 3 rfl ?_
         cases hF
         exact rD (rlt (rlt rl0)) rfl
       · refine rn 0 rfl ?_
         refine bld_new (T := 5) hs fun st b_7 hs => ?_
         obtain ⟨r_8, g_9, hF⟩ := bind_some hF
         refine rn 1 rfl ?_
         refine df (d24 name _ g_9) rfl ?_
         obtain ⟨g_10, hF⟩ := grd_some hF
         refine W.o (e_str rfl rfl (op_cat _ _ g_10)) ?_
         obtain ⟨g_11, hF⟩ := grd_some hF
         refine W.o (e_str rfl rfl (op_cat _ _ g_11)) ?_
         obtain ⟨r_12, g_13, hF⟩ := bind_some hF
         refine rn 1 rfl ?_
         refine df (d24 name _ g_13) rfl ?_
         obtain ⟨g_14, hF⟩ := grd_some hF
         refine W.o (e_str rfl rfl (op_cat _ _ g_14)) ?_
         obtain ⟨g_15, hF⟩ := grd_some hF
         refine W.o (e_str rfl rfl (op_cat _ _ g_15)) ?_
         obtain ⟨r_16, g_17, hF⟩ := bind_some hF
         refine cl (ale rfl) (dWS ([] : Str) ((((([45, 45, 45, 32] : Str) ++ r_8) ++ ([10, 43, 43, 43, 32] : Str)) ++ r_12) ++ ([10] : Str)) _ g_17 _ _ b_7 (fun st hs => ?_) _ hs)
         obtain ⟨r_18, g_19, hF⟩ := bind_some hF
         refine rn 2 rfl ?_
         refine df (dfun_rv (es := 2) (c := c74) (g := v74) rfl c74_len c74_one (fun _ => rfl) (fun st L K hs hK => d47 r_3.1 around _ g_19 K L st hs hK)) rfl ?_
         refine W.o (e_len (rd_V rfl)) ?_
         refine rn 1 rfl ?_
         exact w30 (.p1 r_3.1 r_18 ((ls r_18).length : Int) 0 r_16.2.2) _ hF _ _ b_7 ⟨rfl, rfl, rfl, rfl, rfl, trivial⟩ hs
/-! ### 31: paddock/paddockref01.Unified -/
def C31_31 : ACode := .cond 47 .skip (.exit 0)
def C31_50 : ACode := .s (.s (.ops [q 58 (.mv 15), q 59 (.mv 10), q 60 (.len 59), q 61 (.binI .lss 58 60), q 62 (.mv 61), (q 63 (.mv 15)).y 62, (q 64 (.mv 14)).y 62, (q 65 (.binI .sub 63 64)).y 62, (q 66 (.mv 3)).y 62, (q 67 (.binI .mul (ki 2) 66)).y 62, (q 68 (.binI .add 67 (ki 1))).y 62, (q 69 (.binI .leq 65 68)).y 62, q 70 (.pick 62 69 (.c (.bool false)))]) (.cond 70 .skip (.exit 2))) (.s (.block 3 (.s (.ops [q 73 (.mv 10), q 74 (.mv 15), q 75 (.iaddrL 3 73 74), q 76 (.faddr 0 75), q 77 (.load1 76), q 78 (.binI .neq 77 (ku 1))]) (.cond 78 (.ops [q 79 (.mv 15), q 14 (.mv 79)]) .skip))) (.ops [q 71 (.mv 15), q 72 (.binI .add 71 (ki 1)), q 15 (.mv 72)]))
def C31_64 : ACode := .s (.ops [q 80 (.mv 12), q 81 (.mv 10), q 82 (.mv 13), q 83 (.mv 3), q 84 (.binI .sub 82 83), q 85 (.max [84, (ki 0)]), q 86 (.mv 14), q 87 (.mv 3), q 88 (.binI .add 86 87), q 89 (.binI .add 88 (ki 1)), q 90 (.mv 10), q 91 (.len 90), q 92 (.min [89, 91]), qc 93 50 [81, 85, 92], q 94 (.binS .add 80 93), q 12 (.mv 94)]) (.ops [q 95 (.mv 14), q 96 (.binI .add 95 (ki 1)), q 13 (.mv 96)])
def C31_35 : ACode := .s (.s (.ops [q 48 (.mv 10), q 49 (.mv 13), q 50 (.iaddrL 3 48 49), q 51 (.faddr 0 50), q 52 (.load1 51), q 53 (.binI .eql 52 (ku 1))]) (.cond 53 (.s (.ops [q 54 (.mv 13), q 55 (.binI .add 54 (ki 1)), q 13 (.mv 55)]) (.exit 1)) .skip)) (.s (.ops [q 56 (.mv 13), q 14 (.mv 56)]) (.s (.s (.ops [q 57 (.mv 13), q 15 (.mv 57)]) (.block 2 (.loop C31_50))) C31_64))
def C31_28 : ACode := .s (.s (.ops [q 44 (.mv 13), q 45 (.mv 10), q 46 (.len 45), q 47 (.binI .lss 44 46)]) C31_31) (.block 1 C31_35)
def C31_67 : ACode := .s (.ops [q 97 (.mv 12), q 8 (.mv 97), q 9 (.mv (ki 0))]) .ret
def C31_1 : ACode := .s (.ops [q 8 (.mv (.c (.str []))), q 9 (.mv (ki 0))]) (.s (.s (.ops [q 16 (.mv 3), q 17 (.binI .lss 16 (ki 0)), q 18 (.mv 17), (q 19 (.mv 3)).n 18, (q 20 (.binI .gtr 19 (ki 4096))).n 18, q 21 (.pick 18 (.c (.bool true)) 20)]) (.cond 21 (.s (.ops [q 8 (.mv (.c (.str []))), q 9 (.mv (ki 2))]) .ret) .skip)) (.s (.ops [q 23 (.mv 1), q 24 (.mv 2), qc 25 34 [23, 24], q 22 (.mv 25), q 26 (.extract 22 0), q 27 (.extract 22 1), q 10 (.mv 26), q 11 (.mv 27)]) (.s (.s (.ops [q 28 (.mv 11), q 29 (.binI .neq 28 (ki 0)), q 30 (.mv 29), (q 31 (.mv 1)).n 30, (q 32 (.mv 2)).n 30, (q 33 (.binS .eql 31 32)).n 30, q 34 (.pick 30 (.c (.bool true)) 33)]) (.cond 34 (.s (.ops [q 35 (.mv 11), q 8 (.mv (.c (.str []))), q 9 (.mv 35)]) .ret) .skip)) (.s (.ops [q 36 (.mv 0), qc 37 25 [36], q 38 (.binS .add (.c (.str [45, 45, 45, 32])) 37), q 39 (.binS .add 38 (.c (.str [10, 43, 43, 43, 32]))), q 40 (.mv 0), qc 41 25 [40], q 42 (.binS .add 39 41), q 43 (.binS .add 42 (.c (.str [10]))), q 12 (.mv 43)]) (.s (.ops [q 13 (.mv (ki 0))]) (.s (.block 0 (.loop C31_28)) C31_67))))))
def R31 : List RA := [(.tmp 8), (.tmp 9)]
theorem k31 : compF Tryd.prog (muL []) 31 = some ⟨98, C31_1, R31⟩ := by kernel_rfl
noncomputable abbrev X31 (r : Str × Int) : Cx := cD Tryd.prog gE 98 R31 (AV.tup [AV.str r.1, AV.int .i64 r.2])
inductive St31 where
 | p1 (around : Int) (l : Sl T54) (s : Str) (i : Int)
 | p2 (around : Int) (l : Sl T54) (s : Str) (i : Int) (last : Int) (k : Int)
 | p3 (around : Int) (l : Sl T54) (s : Str) (i : Int) (last : Int)
noncomputable def G31 : St31 → Option (Str × Int)
 | .p1 around l s i =>
  (if (decide (i < ((ls l).length : Int))) = true then
   (ix (ls l) i >>= fun v_16 =>
    (if (v_16.Kind == 1) = true then
     (G31 (.p1 around l s (IntKind.wrap .i64 (i + 1))))
    else
     (G31 (.p2 around l s i i i))))
  else
   (some (s, 0)))
 | .p2 around l s i last k =>
  (if (decide (k < ((ls l).length : Int))) = true then
   (if (decide ((IntKind.wrap .i64 (k - last)) ≤ (IntKind.wrap .i64 ((IntKind.wrap .i64 (2 * around)) + 1)))) = true then
    (ix (ls l) k >>= fun v_21 =>
     (if (v_21.Kind != 1) = true then
      (G31 (.p2 around l s i k (IntKind.wrap .i64 (k + 1))))
     else
      (G31 (.p2 around l s i last (IntKind.wrap .i64 (k + 1))))))
   else
    (G31 (.p3 around l s i last)))
  else
   (G31 (.p3 around l s i last)))
 | .p3 around l s i last =>
  (F50 l (if 0 > (IntKind.wrap .i64 (i - around)) then 0 else (IntKind.wrap .i64 (i - around))) (if ((ls l).length : Int) < (IntKind.wrap .i64 ((IntKind.wrap .i64 (last + around)) + 1)) then ((ls l).length : Int) else (IntKind.wrap .i64 ((IntKind.wrap .i64 (last + around)) + 1))) >>= fun r_24 =>
   (if (s).length + (r_24).length ≤ 9223372036854775807 then
    (G31 (.p1 around l (s ++ r_24) (IntKind.wrap .i64 (last + 1))))
   else none))
 partial_fixpoint
def M31 (x : St31) (r : Str × Int) : Prop := match x with
 | .p1 around l s i => ∀ (tm : Fr) (st : Store), Frm tm [(3, AV.int .i64 around), (10, slV 3 v54 l), (12, AV.str s), (13, AV.int .i64 i)] → SH st [] → W (X31 r) [.lp C31_28, .blk 0, .code C31_67] tm st
 | .p2 around l s i last k => ∀ (tm : Fr) (st : Store), Frm tm [(3, AV.int .i64 around), (10, slV 3 v54 l), (12, AV.str s), (13, AV.int .i64 i), (14, AV.int .i64 last), (15, AV.int .i64 k)] → SH st [] → W (X31 r) [.lp C31_50, .blk 2, .code C31_64, .blk 1, .lp C31_28, .blk 0, .code C31_67] tm st
 | .p3 around l s i last => ∀ (tm : Fr) (st : Store), Frm tm [(3, AV.int .i64 around), (10, slV 3 v54 l), (12, AV.str s), (13, AV.int .i64 i), (14, AV.int .i64 last)] → SH st [] → W (X31 r) [.code C31_64, .blk 1, .lp C31_28, .blk 0, .code C31_67] tm st
theorem w31 : ∀ (x : St31) (r : Str × Int), G31 x = some r → M31 x r := by
 refine G31.partial_correctness M31 ?_
 intro g ih x r hF
 cases x with
 | p1 around l s i =>
  dsimp only at hF
  intro tm st hf hs
  refine en hf ?_
  refine lp ?_
  refine rn 2 rfl ?_
  refine W.o (e_len (rd_V rfl)) ?_
  refine rn 1 rfl ?_
  refine ci hF rfl (fun c_15 hF => ?_) (fun c_15 hF => ?_)
  · obtain ⟨v_16, g_17, hF⟩ := bind_some hF
    refine rn 2 rfl ?_
    refine W.o (e_iaddrL (rd_V rfl) rfl g_17) ?_
    refine W.o (e_faddrD rfl) ?_
    refine W.o (l1D rfl rfl) ?_
    refine rn 1 rfl ?_
    refine ci hF rfl (fun c_18 hF => ?_) (fun c_18 hF => ?_)
    · refine rn 3 rfl ?_
      exact ih (.p1 around l s (IntKind.wrap .i64 (i + 1))) _ hF _ _ ⟨rfl, rfl, rfl, rfl, trivial⟩ hs
    · refine rn 4 rfl ?_
      exact ih (.p2 around l s i i i) _ hF _ _ ⟨rfl, rfl, rfl, rfl, rfl, rfl, trivial⟩ hs
  · refine rn 3 rfl ?_
    cases hF
    exact rD (rlt (rlt rl0)) rfl
 | p2 around l s i last k =>
  dsimp only at hF
  intro tm st hf hs
  refine en hf ?_
  refine lp ?_
  refine rn 2 rfl ?_
  refine W.o (e_len (rd_V rfl)) ?_
  refine rn 2 rfl ?_
  refine bi hF (fun c_19 hF => ?_) (fun c_19 hF => ?_)
  · refine wfx 62 rfl c_19 ?_
    refine rn 8 rfl ?_
    refine ci hF rfl (fun c_20 hF => ?_) (fun c_20 hF => ?_)
    · obtain ⟨v_21, g_22, hF⟩ := bind_some hF
      refine rn 2 rfl ?_
      refine W.o (e_iaddrL (rd_V rfl) rfl g_22) ?_
      refine W.o (e_faddrD rfl) ?_
      refine W.o (l1D rfl rfl) ?_
      refine rn 1 rfl ?_
      refine ci hF rfl (fun c_23 hF => ?_) (fun c_23 hF => ?_)
      · refine rn 5 rfl ?_
        exact ih (.p2 around l s i k (IntKind.wrap .i64 (k + 1))) _ hF _ _ ⟨rfl, rfl, rfl, rfl, rfl, rfl, trivial⟩ hs
      · refine rn 3 rfl ?_
        exact ih (.p2 around l s i last (IntKind.wrap .i64 (k + 1))) _ hF _ _ ⟨rfl, rfl, rfl, rfl, rfl, rfl, trivial⟩ hs
    · refine rj 0 1 rfl ?_
      exact ih (.p3 around l s i last) _ hF _ _ ⟨rfl, rfl, rfl, rfl, rfl, trivial⟩ hs
  · refine wfx 62 rfl c_19 ?_
    refine rn 8 rfl ?_
    refine cf rfl rfl ?_
    refine rj 0 1 rfl ?_
    exact ih (.p3 around l s i last) _ hF _ _ ⟨rfl, rfl, rfl, rfl, rfl, trivial⟩ hs
 | p3 around l s i last =>
  dsimp only at hF
  intro tm st hf hs
  refine en hf ?_
  refine rn 11 rfl ?_
  refine W.o (e_len (rd_V rfl)) ?_
  obtain ⟨r_24, g_25, hF⟩ := bind_some hF
  refine rn 1 rfl ?_
  refine df (d50 l (if 0 > (IntKind.wrap .i64 (i - around)) then 0 else (IntKind.wrap .i64 (i - around))) (if ((ls l).length : Int) < (IntKind.wrap .i64 ((IntKind.wrap .i64 (last + around)) + 1)) then ((ls l).length : Int) else (IntKind.wrap .i64 ((IntKind.wrap .i64 (last + around)) + 1))) _ g_25) rfl ?_
  obtain ⟨g_26, hF⟩ := grd_some hF
  refine W.o (e_str rfl rfl (op_cat _ _ g_26)) ?_
  refine rn 4 rfl ?_
  exact ih (.p1 around l (s ++ r_24) (IntKind.wrap .i64 (last + 1))) _ hF _ _ ⟨rfl, rfl, rfl, rfl, trivial⟩ hs
noncomputable def F31 (name : Str) (a : Str) (b : Str) (around : Int) : Option (Str × Int) :=
 (if (decide (around < 0)) = true then
  (some (([] : Str), 2))
 else
  (if (decide (around > 4096)) = true then
   (some (([] : Str), 2))
  else
   (F34 a b >>= fun r_3 =>
    (if (r_3.2 != 0) = true then
     (some (([] : Str), r_3.2))
    else
     (if (a == b) = true then
      (some (([] : Str), r_3.2))
     else
      (F25 name >>= fun r_7 =>
       (if (([45, 45, 45, 32] : Str)).length + (r_7).length ≤ 9223372036854775807 then
        (if (([45, 45, 45, 32] : Str) ++ r_7).length + (([10, 43, 43, 43, 32] : Str)).length ≤ 9223372036854775807 then
         (F25 name >>= fun r_11 =>
          (if ((([45, 45, 45, 32] : Str) ++ r_7) ++ ([10, 43, 43, 43, 32] : Str)).length + (r_11).length ≤ 9223372036854775807 then
           (if (((([45, 45, 45, 32] : Str) ++ r_7) ++ ([10, 43, 43, 43, 32] : Str)) ++ r_11).length + (([10] : Str)).length ≤ 9223372036854775807 then
            (G31 (.p1 around r_3.1 ((((([45, 45, 45, 32] : Str) ++ r_7) ++ ([10, 43, 43, 43, 32] : Str)) ++ r_11) ++ ([10] : Str)) 0))
           else none)
          else none))
        else none)
       else none)))))))
theorem d31 (name : Str) (a : Str) (b : Str) (around : Int) (r : Str × Int) (hF : F31 name a b around = some r) : DFun Tryd.prog gE 31 [AV.str name, AV.str a, AV.str b, AV.int .i64 around] (AV.tup [AV.str r.1, AV.int .i64 r.2]) := by
 unfold F31 at hF
 refine bD k31 rfl ?_
 have hs : SH [] [] := SH.nil
 generalize ([] : Store) = st at hs ⊢
 refine rn 5 rfl ?_
 refine bi hF (fun c_1 hF => ?_) (fun c_1 hF => ?_)
 · refine wfx 18 rfl c_1 ?_
   refine rn 3 rfl ?_
   refine ct rfl rfl ?_
   refine rn 2 rfl ?_
   cases hF
   exact rD (rlt (rlt rl0)) rfl
 · refine wfx 18 rfl c_1 ?_
   refine rn 3 rfl ?_
   refine ci hF rfl (fun c_2 hF => ?_) (fun c_2 hF => ?_)
   · refine rn 2 rfl ?_
     cases hF
     exact rD (rlt (rlt rl0)) rfl
   · obtain ⟨r_3, g_4, hF⟩ := bind_some hF
     refine rn 2 rfl ?_
     refine df (d34 a b _ g_4) rfl ?_
     refine rn 8 rfl ?_
     refine bi hF (fun c_5 hF => ?_) (fun c_5 hF => ?_)
     · refine wfx 30 rfl c_5 ?_
       refine rn 4 rfl ?_
       refine ct rfl rfl ?_
       refine rn 3 rfl ?_
       cases hF
       exact rD (rlt (rlt rl0)) rfl
     · refine wfx 30 rfl c_5 ?_
       refine rn 4 rfl ?_
       refine ci hF rfl (fun c_6 hF => ?_) (fun c_6 hF => ?_)
       · refine rn 3 rfl ?_
         cases hF
         exact rD (rlt (rlt rl0)) rfl
       · obtain ⟨r_7, g_8, hF⟩ := bind_some hF
         refine rn 1 rfl ?_
         refine df (d25 name _ g_8) rfl ?_
         obtain ⟨g_9, hF⟩ := grd_some hF
         refine W.o (e_str rfl rfl (op_cat _ _ g_9)) ?_
         obtain ⟨g_10, hF⟩ := grd_some hF
         refine W.o (e_str rfl rfl (op_cat _ _ g_10)) ?_
         obtain ⟨r_11, g_12, hF⟩ := bind_some hF
         refine rn 1 rfl ?_
         refine df (d25 name _ g_12) rfl ?_
         obtain ⟨g_13, hF⟩ := grd_some hF
         refine W.o (e_str rfl rfl (op_cat _ _ g_13)) ?_
         obtain ⟨g_14, hF⟩ := grd_some hF
         refine W.o (e_str rfl rfl (op_cat _ _ g_14)) ?_
         refine rn 2 rfl ?_
         exact w31 (.p1 around r_3.1 ((((([45, 45, 45, 32] : Str) ++ r_7) ++ ([10, 43, 43, 43, 32] : Str)) ++ r_11) ++ ([10] : Str)) 0) _ hF _ _ ⟨rfl, rfl, rfl, rfl, trivial⟩ hs
/-! ### 32: paddock/paddocklaw01.told -/
def C32_1 : ACode := .s (.ops [q 0 (.mv (.c (.bool false)))]) (.s (.ops [qc 4 30 [(.c (.str [102])), (.c (.str [97, 10, 98, 10])), (.c (.str [97, 10, 99])), (ki 0)], q 3 (.mv 4), q 5 (.extract 3 0), q 6 (.extract 3 1), q 1 (.mv 5), q 2 (.mv 6)]) (.s (.ops [qc 7 13 [], q 8 (.mv 7), (q 9 (.mv 2)).y 8, (q 10 (.binI .eql 9 (ki 0))).y 8, q 11 (.pick 8 10 (.c (.bool false))), q 12 (.mv 11), (q 13 (.mv 1)).y 12, (q 14 (.binS .eql 13 (.c (.str [45, 45, 45, 32, 34, 102, 34, 10, 43, 43, 43, 32, 34, 102, 34, 10, 64, 64, 32, 45, 50, 32, 43, 50, 32, 64, 64, 10, 45, 98, 10, 43, 99, 10, 92, 32, 78, 111, 32, 110, 101, 119, 108, 105, 110, 101, 32, 97, 116, 32, 101, 110, 100, 32, 111, 102, 32, 102, 105, 108, 101, 10])))).y 12, q 15 (.pick 12 14 (.c (.bool false))), q 0 (.mv 15)]) .ret))
def R32 : List RA := [(.tmp 0)]
theorem k32 : compF Tryd.prog (muL []) 32 = some ⟨16, C32_1, R32⟩ := by kernel_rfl
noncomputable abbrev X32 (r : Bool) : Cx := cD Tryd.prog gE 16 R32 (AV.bool r)
noncomputable def F32  : Option Bool :=
 (F30 ([102] : Str) ([97, 10, 98, 10] : Str) ([97, 10, 99] : Str) 0 >>= fun r_1 =>
  (F13 >>= fun r_3 =>
   (if r_3 = true then
    (if (r_1.2 == 0) = true then
     (some (r_1.1 == ([45, 45, 45, 32, 34, 102, 34, 10, 43, 43, 43, 32, 34, 102, 34, 10, 64, 64, 32, 45, 50, 32, 43, 50, 32, 64, 64, 10, 45, 98, 10, 43, 99, 10, 92, 32, 78, 111, 32, 110, 101, 119, 108, 105, 110, 101, 32, 97, 116, 32, 101, 110, 100, 32, 111, 102, 32, 102, 105, 108, 101, 10] : Str)))
    else
     (some false))
   else
    (some false))))
theorem d32  (r : Bool) (hF : F32  = some r) : DFun Tryd.prog gE 32 [] (AV.bool r) := by
 unfold F32 at hF
 refine bD k32 rfl ?_
 have hs : SH [] [] := SH.nil
 generalize ([] : Store) = st at hs ⊢
 obtain ⟨r_1, g_2, hF⟩ := bind_some hF
 refine rn 1 rfl ?_
 refine df (d30 ([102] : Str) ([97, 10, 98, 10] : Str) ([97, 10, 99] : Str) 0 _ g_2) rfl ?_
 obtain ⟨r_3, g_4, hF⟩ := bind_some hF
 refine rn 5 rfl ?_
 refine df (d13 _ g_4) rfl ?_
 refine rn 1 rfl ?_
 refine bi hF (fun c_5 hF => ?_) (fun c_5 hF => ?_)
 · refine wfx 8 rfl c_5 ?_
   refine rn 4 rfl ?_
   refine bi hF (fun c_6 hF => ?_) (fun c_6 hF => ?_)
   · refine wfx 12 rfl c_6 ?_
     refine rn 4 rfl ?_
     cases hF
     exact rD (rlt rl0) rfl
   · refine wfx 12 rfl c_6 ?_
     refine rn 4 rfl ?_
     cases hF
     exact rD (rlt rl0) rfl
 · refine wfx 8 rfl c_5 ?_
   refine rn 8 rfl ?_
   cases hF
   exact rD (rlt rl0) rfl
/-! ### 10: paddock/paddocklaw01.LinesUnified -/
def C10_1 : ACode := .s (.ops [q 8 (.mv (.c (.bool false)))]) (.s (.ops [q 14 (.mv 0), q 15 (.mv 1), q 16 (.mv 2), q 17 (.mv 3), qc 18 30 [14, 15, 16, 17], q 13 (.mv 18), q 19 (.extract 13 0), q 20 (.extract 13 1), q 9 (.mv 19), q 10 (.mv 20)]) (.s (.ops [q 22 (.mv 0), q 23 (.mv 1), q 24 (.mv 2), q 25 (.mv 3), qc 26 31 [22, 23, 24, 25], q 21 (.mv 26), q 27 (.extract 21 0), q 28 (.extract 21 1), q 11 (.mv 27), q 12 (.mv 28)]) (.s (.ops [qc 29 32 [], q 30 (.mv 29), (q 31 (.mv 9)).y 30, (q 32 (.mv 11)).y 30, (q 33 (.binS .eql 31 32)).y 30, q 34 (.pick 30 33 (.c (.bool false))), q 35 (.mv 34), (q 36 (.mv 10)).y 35, (q 37 (.mv 12)).y 35, (q 38 (.binI .eql 36 37)).y 35, q 39 (.pick 35 38 (.c (.bool false))), q 8 (.mv 39)]) .ret)))
def R10 : List RA := [(.tmp 8)]
theorem k10 : compF Tryd.prog (muL []) 10 = some ⟨40, C10_1, R10⟩ := by kernel_rfl
noncomputable abbrev X10 (r : Bool) : Cx := cD Tryd.prog gE 40 R10 (AV.bool r)
noncomputable def F10 (name : Str) (a : Str) (b : Str) (around : Int) : Option Bool :=
 (F30 name a b around >>= fun r_1 =>
  (F31 name a b around >>= fun r_3 =>
   (F32 >>= fun r_5 =>
    (if r_5 = true then
     (if (r_1.1 == r_3.1) = true then
      (some (r_1.2 == r_3.2))
     else
      (some false))
    else
     (some false)))))
theorem d10 (name : Str) (a : Str) (b : Str) (around : Int) (r : Bool) (hF : F10 name a b around = some r) : DFun Tryd.prog gE 10 [AV.str name, AV.str a, AV.str b, AV.int .i64 around] (AV.bool r) := by
 unfold F10 at hF
 refine bD k10 rfl ?_
 have hs : SH [] [] := SH.nil
 generalize ([] : Store) = st at hs ⊢
 obtain ⟨r_1, g_2, hF⟩ := bind_some hF
 refine rn 5 rfl ?_
 refine df (d30 name a b around _ g_2) rfl ?_
 obtain ⟨r_3, g_4, hF⟩ := bind_some hF
 refine rn 9 rfl ?_
 refine df (d31 name a b around _ g_4) rfl ?_
 obtain ⟨r_5, g_6, hF⟩ := bind_some hF
 refine rn 5 rfl ?_
 refine df (d32 _ g_6) rfl ?_
 refine rn 1 rfl ?_
 refine bi hF (fun c_7 hF => ?_) (fun c_7 hF => ?_)
 · refine wfx 30 rfl c_7 ?_
   refine rn 5 rfl ?_
   refine bi hF (fun c_8 hF => ?_) (fun c_8 hF => ?_)
   · refine wfx 35 rfl c_8 ?_
     refine rn 5 rfl ?_
     cases hF
     exact rD (rlt rl0) rfl
   · refine wfx 35 rfl c_8 ?_
     refine rn 5 rfl ?_
     cases hF
     exact rD (rlt rl0) rfl
 · refine wfx 30 rfl c_7 ?_
   refine rn 10 rfl ?_
   cases hF
   exact rD (rlt rl0) rfl
/-! ### 11: paddock/paddocklaw01.LinesDiffs -/
def C11_1 : ACode := .s (.ops [q 6 (.mv (.c (.bool false)))]) (.s (.ops [q 16 (.mv 0), q 17 (.mv 1), qc 18 33 [16, 17], q 15 (.mv 18), q 19 (.extract 15 0), q 20 (.extract 15 1), q 7 (.mv 19), q 8 (.mv 20)]) (.s (.ops [q 22 (.mv 0), q 23 (.mv 1), qc 24 34 [22, 23], q 21 (.mv 24), q 25 (.extract 21 0), q 26 (.extract 21 1), q 9 (.mv 25), q 10 (.mv 26)]) (.s (.ops [q 28 (.mv 0), q 29 (.mv 2), qc 30 35 [28, 29], q 27 (.mv 30), q 31 (.extract 27 0), q 32 (.extract 27 1), q 11 (.mv 31), q 12 (.mv 32)]) (.s (.ops [q 34 (.mv 0), q 35 (.mv 2), qc 36 36 [34, 35], q 33 (.mv 36), q 37 (.extract 33 0), q 38 (.extract 33 1), q 13 (.mv 37), q 14 (.mv 38)]) (.s (.ops [qc 39 32 [], q 40 (.mv 39), (q 41 (.mv 7)).y 40, (q 42 (.mv 9)).y 40, (qc 43 37 [41, 42]).y 40, q 44 (.pick 40 43 (.c (.bool false))), q 45 (.mv 44), (q 46 (.mv 8)).y 45, (q 47 (.mv 10)).y 45, (q 48 (.binI .eql 46 47)).y 45, q 49 (.pick 45 48 (.c (.bool false))), q 50 (.mv 49), (q 51 (.mv 11)).y 50, (q 52 (.mv 13)).y 50, (q 53 (.binS .eql 51 52)).y 50, q 54 (.pick 50 53 (.c (.bool false))), q 55 (.mv 54), (q 56 (.mv 12)).y 55, (q 57 (.mv 14)).y 55, (q 58 (.binI .eql 56 57)).y 55, q 59 (.pick 55 58 (.c (.bool false))), q 6 (.mv 59)]) .ret)))))
def R11 : List RA := [(.tmp 6)]
theorem k11 : compF Tryd.prog (muL []) 11 = some ⟨60, C11_1, R11⟩ := by kernel_rfl
noncomputable abbrev X11 (r : Bool) : Cx := cD Tryd.prog gE 60 R11 (AV.bool r)
noncomputable def F11 (a : Str) (b : Str) (l : Sl T54) : Option Bool :=
 (F33 a b >>= fun r_1 =>
  (F34 a b >>= fun r_3 =>
   (F35 a l >>= fun r_5 =>
    (F36 a l >>= fun r_7 =>
     (F32 >>= fun r_9 =>
      (if r_9 = true then
       (F37 r_1.1 r_3.1 >>= fun r_12 =>
        (if r_12 = true then
         (if (r_1.2 == r_3.2) = true then
          (if (r_5.1 == r_7.1) = true then
           (some (r_5.2 == r_7.2))
          else
           (some false))
         else
          (some false))
        else
         (some false)))
      else
       (some false)))))))
theorem d11 (a : Str) (b : Str) (l : Sl T54) (r : Bool) (hF : F11 a b l = some r) : DFun Tryd.prog gE 11 [AV.str a, AV.str b, slV 3 v54 l] (AV.bool r) := by
 unfold F11 at hF
 refine bD k11 rfl ?_
 have hs : SH [] [] := SH.nil
 generalize ([] : Store) = st at hs ⊢
 obtain ⟨r_1, g_2, hF⟩ := bind_some hF
 refine rn 3 rfl ?_
 refine df (d33 a b _ g_2) rfl ?_
 obtain ⟨r_3, g_4, hF⟩ := bind_some hF
 refine rn 7 rfl ?_
 refine df (d34 a b _ g_4) rfl ?_
 obtain ⟨r_5, g_6, hF⟩ := bind_some hF
 refine rn 7 rfl ?_
 refine df (d35 a l _ g_6) rfl ?_
 obtain ⟨r_7, g_8, hF⟩ := bind_some hF
 refine rn 7 rfl ?_
 refine df (d36 a l _ g_8) rfl ?_
 obtain ⟨r_9, g_10, hF⟩ := bind_some hF
 refine rn 5 rfl ?_
 refine df (d32 _ g_10) rfl ?_
 refine rn 1 rfl ?_
 refine bi hF (fun c_11 hF => ?_) (fun c_11 hF => ?_)
 · refine wfx 40 rfl c_11 ?_
   obtain ⟨r_12, g_13, hF⟩ := bind_some hF
   refine rn 2 rfl ?_
   refine W.on rfl rfl ?_
   refine df (d37 r_1.1 r_3.1 _ g_13) rfl ?_
   refine rn 2 rfl ?_
   refine bi hF (fun c_14 hF => ?_) (fun c_14 hF => ?_)
   · refine wfx 45 rfl c_14 ?_
     refine rn 5 rfl ?_
     refine bi hF (fun c_15 hF => ?_) (fun c_15 hF => ?_)
     · refine wfx 50 rfl c_15 ?_
       refine rn 5 rfl ?_
       refine bi hF (fun c_16 hF => ?_) (fun c_16 hF => ?_)
       · refine wfx 55 rfl c_16 ?_
         refine rn 5 rfl ?_
         cases hF
         exact rD (rlt rl0) rfl
       · refine wfx 55 rfl c_16 ?_
         refine rn 5 rfl ?_
         cases hF
         exact rD (rlt rl0) rfl
     · refine wfx 50 rfl c_15 ?_
       refine rn 10 rfl ?_
       cases hF
       exact rD (rlt rl0) rfl
   · refine wfx 45 rfl c_14 ?_
     refine rn 15 rfl ?_
     cases hF
     exact rD (rlt rl0) rfl
 · refine wfx 40 rfl c_11 ?_
   refine rn 20 rfl ?_
   cases hF
   exact rD (rlt rl0) rfl
/-! ### 12: paddock/paddocklaw01.LinesChanged -/
def C12_52 : ACode := .s (.ops [q 88 (.binI .lss 87 86)]) (.s (.cond 88 .skip (.exit 0)) (.s (.block 1 (.s (.ops [q 89 (.iaddrL 3 85 87), q 90 (.loadN 3 89), q 13 (.alloc [(.int .u8 0), (.str []), (.bool false)]), q0 (.store 3 13 90)]) (.s (.ops [q 91 (.faddr 0 13), q 92 (.load1 91), q 93 (.binI .neq 92 (ku 2))]) (.cond 93 (.ops [q 94 (.mv 11), q 95 (.faddr 1 13), q 96 (.loadN 2 95), q 97 (.bslice 2 1 true [(.str []), (.bool false)] [(0, (2, 96))] false), q 98 (.app 2 24 94 97), q 11 (.mv 98)]) .skip)))) (.ops [q 99 (.binI .add 87 (ki 1)), q 87 (.mv 99)])))
def C12_68 : ACode := .s (.ops [q 100 (.mv 11), q 101 (.mv 1), qc 102 14 [101], qc 103 15 [100, 102], q 104 (.un .not 103), q 6 (.mv 104)]) .ret
def C12_45 : ACode := .s (.ops [q 11 (.mv (.c .nils))]) (.s (.s (.ops [q 85 (.mv 2), q 86 (.len 85), q 87 (.mv (ki 0))]) (.block 0 (.loop C12_52))) C12_68)
def C12_72 : ACode := .s (.ops [q 106 (.mv 0), q 107 (.mv 1), qc 108 30 [(.c (.str [120])), 106, 107, (ki 1)], q 105 (.mv 108), q 109 (.extract 105 0), q 110 (.extract 105 1), q 14 (.mv 109), q 8 (.mv 110)]) (.s (.ops [q 111 (.mv 8), q 112 (.binI .eql 111 (ki 0)), q 113 (.mv 112), (q 114 (.mv 14)).y 113, (q 115 (.binS .eql 114 (.c (.str [])))).y 113, (q 116 (.mv 0)).y 113, (q 117 (.mv 1)).y 113, (q 118 (.binS .eql 116 117)).y 113, (q 119 (.eqB false 115 118)).y 113, q 120 (.pick 113 119 (.c (.bool false))), q 6 (.mv 120)]) .ret)
def C12_39 : ACode := .s (.ops [q 66 (.mv 0), q 67 (.mv 2), qc 68 35 [66, 67], q 65 (.mv 68), q 69 (.extract 65 0), q 70 (.extract 65 1), q 10 (.mv 69), q 8 (.mv 70)]) (.s (.s (.ops [q 71 (.mv 8), q 72 (.binI .eql 71 (ki 0)), q 73 (.mv 72), (q 74 (.mv 10)).y 73, (q 75 (.mv 1)).y 73, (q 76 (.binS .eql 74 75)).y 73, q 77 (.pick 73 76 (.c (.bool false))), q 78 (.mv 77), (q 79 (.mv 2)).y 78, (qc 80 38 [79]).y 78, (q 81 (.mv 7)).y 78, (qc 82 38 [81]).y 78, (q 83 (.binI .gtr 80 82)).y 78, q 84 (.pick 78 83 (.c (.bool false)))]) (.cond 84 C12_45 .skip)) C12_72)
def C12_1 : ACode := .s (.ops [q 6 (.mv (.c (.bool false)))]) (.s (.s (.ops [qc 15 32 [], q 16 (.un .not 15)]) (.cond 16 (.s (.ops [q 6 (.mv (.c (.bool false)))]) .ret) .skip)) (.s (.ops [q 18 (.mv 0), q 19 (.mv 1), qc 20 33 [18, 19], q 17 (.mv 20), q 21 (.extract 17 0), q 22 (.extract 17 1), q 7 (.mv 21), q 8 (.mv 22)]) (.s (.s (.ops [q 23 (.mv 8), q 24 (.binI .neq 23 (ki 0))]) (.cond 24 (.s (.ops [q 25 (.mv 8), q 26 (.binI .eql 25 (ki 3)), q 27 (.mv 26), (q 28 (.mv 0)).y 27, (qc 29 21 [28]).y 27, (q 30 (.binI .gtr 29 (ki 4096))).y 27, (q 31 (.mv 30)).y 27, (q 32 (.mv 1)).n 31, (qc 33 21 [32]).n 31, (q 34 (.binI .gtr 33 (ki 4096))).n 31, (q 35 (.pick 31 (.c (.bool true)) 34)).y 27, q 36 (.pick 27 35 (.c (.bool false))), q 37 (.mv 36), (q 38 (.mv 7)).y 37, (q 39 (.len 38)).y 37, (q 40 (.binI .eql 39 (ki 0))).y 37, q 41 (.pick 37 40 (.c (.bool false))), q 6 (.mv 41)]) .ret) .skip)) (.s (.ops [q 43 (.mv 0), q 44 (.mv 7), qc 45 35 [43, 44], q 42 (.mv 45), q 46 (.extract 42 0), q 47 (.extract 42 1), q 9 (.mv 46), q 8 (.mv 47)]) (.s (.s (.ops [q 48 (.mv 8), q 49 (.binI .neq 48 (ki 0)), q 50 (.mv 49), (q 51 (.mv 9)).n 50, (q 52 (.mv 1)).n 50, (q 53 (.binS .neq 51 52)).n 50, q 54 (.pick 50 (.c (.bool true)) 53)]) (.cond 54 (.s (.ops [q 6 (.mv (.c (.bool false)))]) .ret) .skip)) (.s (.s (.ops [q 55 (.mv 0), q 56 (.mv 1), q 57 (.binS .eql 55 56), q 58 (.mv 57), (q 59 (.mv 7)).y 58, (qc 60 38 [59]).y 58, (q 61 (.mv 0)).y 58, (qc 62 21 [61]).y 58, (q 63 (.binI .neq 60 62)).y 58, q 64 (.pick 58 63 (.c (.bool false)))]) (.cond 64 (.s (.ops [q 6 (.mv (.c (.bool false)))]) .ret) .skip)) C12_39))))))
def R12 : List RA := [(.tmp 6)]
theorem k12 : compF Tryd.prog (muL []) 12 = some ⟨121, C12_1, R12⟩ := by kernel_rfl
noncomputable abbrev X12 (r : Bool) : Cx := cD Tryd.prog gE 121 R12 (AV.bool r)
inductive St12 where
 | p1 (a : Str) (b : Str) (l : Sl T54) (x_ : Sl T54)
 | p2 (b : Str) (t85_ : Sl T54) (t86_ : Int) (t87_ : Int) (put : Sl T25)
 | p3 (a : Str) (b : Str)
noncomputable def G12 : St12 → Option Bool
 | .p1 a b l x_ =>
  (F35 a l >>= fun r_24 =>
   (if (r_24.2 == 0) = true then
    (if (r_24.1 == b) = true then
     (F38 l >>= fun r_28 =>
      (F38 x_ >>= fun r_30 =>
       (if (decide (r_28 > r_30)) = true then
        (G12 (.p2 b l ((ls l).length : Int) 0 none))
       else
        (G12 (.p3 a b)))))
    else
     (G12 (.p3 a b)))
   else
    (G12 (.p3 a b))))
 | .p2 b t85_ t86_ t87_ put =>
  (if (decide (t87_ < t86_)) = true then
   (ix (ls t85_) t87_ >>= fun v_35 =>
    (if (v_35.Kind != 2) = true then
     (if ((ls put).length + (ls (some ([v_35.Line] : List T25))).length) * 24 ≤ 140737488355328 then
      (G12 (.p2 b t85_ t86_ (IntKind.wrap .i64 (t87_ + 1)) (sapp put (ls (some ([v_35.Line] : List T25))))))
     else none)
    else
     (G12 (.p2 b t85_ t86_ (IntKind.wrap .i64 (t87_ + 1)) put))))
  else
   (F14 b >>= fun r_42 =>
    (F15 put r_42 >>= fun r_44 =>
     (some (!r_44)))))
 | .p3 a b =>
  (F30 ([120] : Str) a b 1 >>= fun r_46 =>
   (if (r_46.2 == 0) = true then
    (some ((r_46.1 == ([] : Str)) == (a == b)))
   else
    (some false)))
 partial_fixpoint
def M12 (x : St12) (r : Bool) : Prop := match x with
 | .p1 a b l x_ => ∀ (tm : Fr) (st : Store), Frm tm [(0, AV.str a), (1, AV.str b), (2, slV 3 v54 l), (7, slV 3 v54 x_)] → SH st [] → W (X12 r) [.code C12_39] tm st
 | .p2 b t85_ t86_ t87_ put => ∀ (tm : Fr) (st : Store) (io0 : Nat), Frm tm [(1, AV.str b), (11, ownV 2 v25 put io0), (85, slV 3 v54 t85_), (86, AV.int .i64 t86_), (87, AV.int .i64 t87_)] → SH st [ownA io0 put] → W (X12 r) [.lp C12_52, .blk 0, .code C12_68, .code C12_72] tm st
 | .p3 a b => ∀ (tm : Fr) (st : Store), Frm tm [(0, AV.str a), (1, AV.str b)] → SH st [] → W (X12 r) [.code C12_72] tm st
theorem w12 : ∀ (x : St12) (r : Bool), G12 x = some r → M12 x r := by
 refine G12.partial_correctness M12 ?_
 intro g ih x r hF
 cases x with
 | p1 a b l x_ =>
  dsimp only at hF
  intro tm st hf hs
  refine en hf ?_
  obtain ⟨r_24, g_25, hF⟩ := bind_some hF
  refine rn 2 rfl ?_
  refine df (d35 a l _ g_25) rfl ?_
  refine rn 8 rfl ?_
  refine bi hF (fun c_26 hF => ?_) (fun c_26 hF => ?_)
  · refine wfx 73 rfl c_26 ?_
    refine rn 5 rfl ?_
    refine bi hF (fun c_27 hF => ?_) (fun c_27 hF => ?_)
    · refine wfx 78 rfl c_27 ?_
      obtain ⟨r_28, g_29, hF⟩ := bind_some hF
      refine rn 1 rfl ?_
      refine W.on rfl rfl ?_
      refine df (d38 l _ g_29) rfl ?_
      obtain ⟨r_30, g_31, hF⟩ := bind_some hF
      refine rn 1 rfl ?_
      refine W.on rfl rfl ?_
      refine df (d38 x_ _ g_31) rfl ?_
      refine rn 2 rfl ?_
      refine ci hF rfl (fun c_32 hF => ?_) (fun c_32 hF => ?_)
      · refine rn 2 rfl ?_
        refine W.o (e_len (rd_V rfl)) ?_
        refine rn 1 rfl ?_
        have hs := hs.ownNil T25
        exact ih (.p2 b l ((ls l).length : Int) 0 none) _ hF _ _ 0 ⟨rfl, rfl, rfl, rfl, rfl, trivial⟩ hs
      · refine rj 0 1 rfl ?_
        exact ih (.p3 a b) _ hF _ _ ⟨rfl, rfl, trivial⟩ hs
    · refine wfx 78 rfl c_27 ?_
      refine rn 6 rfl ?_
      refine cf rfl rfl ?_
      refine rj 0 1 rfl ?_
      exact ih (.p3 a b) _ hF _ _ ⟨rfl, rfl, trivial⟩ hs
  · refine wfx 73 rfl c_26 ?_
    refine rn 11 rfl ?_
    refine cf rfl rfl ?_
    refine rj 0 1 rfl ?_
    exact ih (.p3 a b) _ hF _ _ ⟨rfl, rfl, trivial⟩ hs
 | p2 b t85_ t86_ t87_ put =>
  dsimp only at hF
  intro tm st io0 hf hs
  refine en hf ?_
  refine lp ?_
  refine rn 1 rfl ?_
  refine ci hF rfl (fun c_34 hF => ?_) (fun c_34 hF => ?_)
  · obtain ⟨v_35, g_36, hF⟩ := bind_some hF
    refine rn 0 rfl ?_
    refine W.o (e_iaddrL (rd_V rfl) rfl g_36) ?_
    refine W.o (lND (s := c54 v_35) rfl rfl rfl) ?_
    refine al hs (cs := c54 ({ Kind := 0, Line := ({ Text := [], Whole := false } : T25) } : T54)) rfl fun st b_37 hs => ?_
    refine sr hs 0 rfl rfl rfl (cs' := c54 v_35) rfl rfl fun st hs => ?_
    refine rn 0 rfl ?_
    refine W.o (e_faddr rfl (hs.g 0 rfl)) ?_
    refine W.o (l1 rfl (hs.g 0 rfl) rfl) ?_
    refine rn 1 rfl ?_
    refine ci hF rfl (fun c_38 hF => ?_) (fun c_38 hF => ?_)
    · refine rn 1 rfl ?_
      refine W.o (e_faddr rfl (hs.g 0 rfl)) ?_
      refine W.o (lN (s := c25 v_35.Line) rfl (hs.g 0 rfl) rfl rfl) ?_
      refine bs (f := v25) ([v_35.Line] : List T25) hs rfl rfl rfl rfl fun st b_39 hs => ?_
      obtain ⟨g_40, hF⟩ := grd_some hF
      refine ap (ys := ls (some ([v_35.Line] : List T25))) hs 2 rfl rfl (ae_rd (rd_W (o := (some ([v_35.Line] : List T25))) (id := b_39) rfl)) g_40 (fun _ => rfl) fun st b_41 hs => ?_
      refine rn 3 rfl ?_
      exact ih (.p2 b t85_ t86_ (IntKind.wrap .i64 (t87_ + 1)) (sapp put (ls (some ([v_35.Line] : List T25))))) _ hF _ _ b_41 ⟨rfl, rfl, rfl, rfl, rfl, trivial⟩ (hs.p 3 [2] rfl)
    · refine rn 2 rfl ?_
      exact ih (.p2 b t85_ t86_ (IntKind.wrap .i64 (t87_ + 1)) put) _ hF _ _ io0 ⟨rfl, rfl, rfl, rfl, rfl, trivial⟩ (hs.p 2 [1] rfl)
  · obtain ⟨r_42, g_43, hF⟩ := bind_some hF
    refine rn 2 rfl ?_
    refine df (dfun_own (fun st L K hs hK => d14 b _ g_43 K L st hs hK)) rfl ?_
    obtain ⟨r_44, g_45, hF⟩ := bind_some hF
    refine df' (d15 put r_42 _ g_45) (ds := [slV 2 v25 put, slV 2 v25 r_42]) (dsl_cons (dsw (es := 2) (f := v25) (o := put) (id := io0)) (dsl_cons (dsv (v := slV 2 v25 r_42)) dsl_nil)) ?_
    refine rn 2 rfl ?_
    cases hF
    exact rD (rlt rl0) rfl
 | p3 a b =>
  dsimp only at hF
  intro tm st hf hs
  refine en hf ?_
  obtain ⟨r_46, g_47, hF⟩ := bind_some hF
  refine rn 2 rfl ?_
  refine df (d30 ([120] : Str) a b 1 _ g_47) rfl ?_
  refine rn 8 rfl ?_
  refine bi hF (fun c_48 hF => ?_) (fun c_48 hF => ?_)
  · refine wfx 113 rfl c_48 ?_
    refine rn 8 rfl ?_
    cases hF
    exact rD (rlt rl0) rfl
  · refine wfx 113 rfl c_48 ?_
    refine rn 8 rfl ?_
    cases hF
    exact rD (rlt rl0) rfl
noncomputable def F12 (a : Str) (b : Str) (l : Sl T54) : Option Bool :=
 (F32 >>= fun r_1 =>
  (if (!r_1) = true then
   (some false)
  else
   (F33 a b >>= fun r_4 =>
    (if (r_4.2 != 0) = true then
     (if (r_4.2 == 3) = true then
      (F21 a >>= fun r_8 =>
       (if (decide (r_8 > 4096)) = true then
        (some (((ls r_4.1).length : Int) == 0))
       else
        (F21 b >>= fun r_11 =>
         (if (decide (r_11 > 4096)) = true then
          (some (((ls r_4.1).length : Int) == 0))
         else
          (some false)))))
     else
      (some false))
    else
     (F35 a r_4.1 >>= fun r_14 =>
      (if (r_14.2 != 0) = true then
       (some false)
      else
       (if (!(r_14.1 == b)) = true then
        (some false)
       else
        (if (a == b) = true then
         (F38 r_4.1 >>= fun r_19 =>
          (F21 a >>= fun r_21 =>
           (if (r_19 != r_21) = true then
            (some false)
           else
            (G12 (.p1 a b l r_4.1)))))
        else
         (G12 (.p1 a b l r_4.1))))))))))
theorem d12 (a : Str) (b : Str) (l : Sl T54) (r : Bool) (hF : F12 a b l = some r) : DFun Tryd.prog gE 12 [AV.str a, AV.str b, slV 3 v54 l] (AV.bool r) := by
 unfold F12 at hF
 refine bD k12 rfl ?_
 have hs : SH [] [] := SH.nil
 generalize ([] : Store) = st at hs ⊢
 obtain ⟨r_1, g_2, hF⟩ := bind_some hF
 refine rn 1 rfl ?_
 refine df (d32 _ g_2) rfl ?_
 refine rn 1 rfl ?_
 refine ci hF rfl (fun c_3 hF => ?_) (fun c_3 hF => ?_)
 · refine rn 1 rfl ?_
   cases hF
   exact rD (rlt rl0) rfl
 · obtain ⟨r_4, g_5, hF⟩ := bind_some hF
   refine rn 2 rfl ?_
   refine df (d33 a b _ g_5) rfl ?_
   refine rn 7 rfl ?_
   refine ci hF rfl (fun c_6 hF => ?_) (fun c_6 hF => ?_)
   · refine rn 3 rfl ?_
     refine bi hF (fun c_7 hF => ?_) (fun c_7 hF => ?_)
     · refine wfx 27 rfl c_7 ?_
       obtain ⟨r_8, g_9, hF⟩ := bind_some hF
       refine rn 1 rfl ?_
       refine W.on rfl rfl ?_
       refine df (d21 a _ g_9) rfl ?_
       refine rn 2 rfl ?_
       refine bi hF (fun c_10 hF => ?_) (fun c_10 hF => ?_)
       · refine wfx 31 rfl c_10 ?_
         refine rn 7 rfl ?_
         refine W.on rfl rfl ?_
         refine W.o (e_len (rd_V rfl)) ?_
         refine rn 3 rfl ?_
         cases hF
         exact rD (rlt rl0) rfl
       · refine wfx 31 rfl c_10 ?_
         obtain ⟨r_11, g_12, hF⟩ := bind_some hF
         refine rn 1 rfl ?_
         refine W.on rfl rfl ?_
         refine df (d21 b _ g_12) rfl ?_
         refine rn 4 rfl ?_
         refine bi hF (fun c_13 hF => ?_) (fun c_13 hF => ?_)
         · refine wfx 37 rfl c_13 ?_
           refine rn 1 rfl ?_
           refine W.on rfl rfl ?_
           refine W.o (e_len (rd_V rfl)) ?_
           refine rn 3 rfl ?_
           cases hF
           exact rD (rlt rl0) rfl
         · refine wfx 37 rfl c_13 ?_
           refine rn 5 rfl ?_
           cases hF
           exact rD (rlt rl0) rfl
     · refine wfx 27 rfl c_7 ?_
       refine rn 15 rfl ?_
       cases hF
       exact rD (rlt rl0) rfl
   · obtain ⟨r_14, g_15, hF⟩ := bind_some hF
     refine rn 2 rfl ?_
     refine df (d35 a r_4.1 _ g_15) rfl ?_
     refine rn 8 rfl ?_
     refine bi hF (fun c_16 hF => ?_) (fun c_16 hF => ?_)
     · refine wfx 50 rfl c_16 ?_
       refine rn 4 rfl ?_
       refine ct rfl rfl ?_
       refine rn 1 rfl ?_
       cases hF
       exact rD (rlt rl0) rfl
     · refine wfx 50 rfl c_16 ?_
       refine rn 4 rfl ?_
       refine ci hF rfl (fun c_17 hF => ?_) (fun c_17 hF => ?_)
       · refine rn 1 rfl ?_
         cases hF
         exact rD (rlt rl0) rfl
       · refine rn 4 rfl ?_
         refine bi hF (fun c_18 hF => ?_) (fun c_18 hF => ?_)
         · refine wfx 58 rfl c_18 ?_
           obtain ⟨r_19, g_20, hF⟩ := bind_some hF
           refine rn 1 rfl ?_
           refine W.on rfl rfl ?_
           refine df (d38 r_4.1 _ g_20) rfl ?_
           obtain ⟨r_21, g_22, hF⟩ := bind_some hF
           refine rn 1 rfl ?_
           refine W.on rfl rfl ?_
           refine df (d21 a _ g_22) rfl ?_
           refine rn 2 rfl ?_
           refine ci hF rfl (fun c_23 hF => ?_) (fun c_23 hF => ?_)
           · refine rn 1 rfl ?_
             cases hF
             exact rD (rlt rl0) rfl
           · refine rj 0 1 rfl ?_
             exact w12 (.p1 a b l r_4.1) _ hF _ _ ⟨rfl, rfl, rfl, rfl, trivial⟩ hs
         · refine wfx 58 rfl c_18 ?_
           refine rn 6 rfl ?_
           refine cf rfl rfl ?_
           refine rj 0 1 rfl ?_
           exact w12 (.p1 a b l r_4.1) _ hF _ _ ⟨rfl, rfl, rfl, rfl, trivial⟩ hs
end Go.Proofs.YtllhdbdbdblimaaDoor
