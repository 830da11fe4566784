/-
  Functions of the program's as plain functions.
-/
import Derived.Test.YtllhdbdbdblimaaDoorTy
set_option linter.unusedVariables false
set_option maxRecDepth 4000
set_option maxHeartbeats 4000000
namespace Go.Proofs.YtllhdbdbdblimaaDoor
open Go AW
attribute [local irreducible] W WD SH XS XLoop DFun XCall
/-! ### 65: internal/stringslite.IndexByte -/
def C65_1 : ACode := .s (.ops [q 4 (.mv (ki 0))]) (.s (.ops [q 5 (.mv 0), q 6 (.mv 1), q 7 (.ixB 5 6), q 4 (.mv 7)]) .ret)
def R65 : List RA := [(.tmp 4)]
theorem k65 : compF Tryd.prog (muL []) 65 = some ⟨8, C65_1, R65⟩ := by kernel_rfl
noncomputable abbrev X65 (r : Int) : Cx := cD Tryd.prog gE 8 R65 (AV.int .i64 r)
noncomputable def F65 (s : Str) (c : Int) : Option Int :=
 (some (ixByte s c))
theorem d65 (s : Str) (c : Int) (r : Int) (hF : F65 s c = some r) : DFun Tryd.prog gE 65 [AV.str s, AV.int .u8 c] (AV.int .i64 r) := by
 unfold F65 at hF
 refine bD k65 rfl ?_
 have hs : SH [] [] := SH.nil
 generalize ([] : Store) = st at hs ⊢
 refine rn 3 rfl ?_
 refine W.o (e_ixB rfl rfl) ?_
 refine rn 1 rfl ?_
 cases hF
 exact rD (rlt rl0) rfl
/-! ### 61: internal/stringslite.Index -/
def C61_27 : ACode := .cond 36 (.s (.ops [q0 (.ixB (.c .nils) (.c .nils))]) .ret) .skip
def C61_89 : ACode := .s (.ops [q 115 (.mv 12), q 116 (.mv 8), q 117 (.binI .add 115 116), q 4 (.mv 117)]) .ret
def C61_102 : ACode := .s (.ops [q 138 (.mv 13), q 139 (.binI .lss 138 (ki 0))]) (.cond 139 (.s (.ops [q 4 (.mv (ki (-1)))]) .ret) .skip)
def C61_109 : ACode := .s (.ops [q 140 (.mv 8), q 141 (.mv 13), q 142 (.binI .add 140 141), q 4 (.mv 142)]) .ret
def C61_45 : ACode := .s (.s (.ops [q 57 (.mv 8), q 58 (.mv 9), q 59 (.binI .lss 57 58)]) (.cond 59 .skip (.exit 1))) (.block 2 (.s (.s (.ops [q 60 (.mv 0), q 61 (.mv 8), q 62 (.ixS 60 61), q 63 (.mv 6), q 64 (.binI .neq 62 63)]) (.cond 64 (.s (.ops [q 65 (.mv 0), q 66 (.mv 8), q 67 (.binI .add 66 (ki 1)), q 68 (.mv 9), q 69 (.slS 65 (.some 67) (.some 68)), q 70 (.mv 6), qc 71 65 [69, 70], q 11 (.mv 71)]) (.s (.s (.ops [q 72 (.mv 11), q 73 (.binI .lss 72 (ki 0))]) (.cond 73 (.s (.ops [q 4 (.mv (ki (-1)))]) .ret) .skip)) (.ops [q 74 (.mv 8), q 75 (.mv 11), q 76 (.binI .add 75 (ki 1)), q 77 (.binI .add 74 76), q 8 (.mv 77)]))) .skip)) (.s (.s (.ops [q 78 (.mv 0), q 79 (.mv 8), q 80 (.binI .add 79 (ki 1)), q 81 (.ixS 78 80), q 82 (.mv 7), q 83 (.binI .eql 81 82), q 84 (.mv 83), (q 85 (.mv 0)).y 84, (q 86 (.mv 8)).y 84, (q 87 (.mv 8)).y 84, (q 88 (.mv 5)).y 84, (q 89 (.binI .add 87 88)).y 84, (q 90 (.slS 85 (.some 86) (.some 89))).y 84, (q 91 (.mv 1)).y 84, (q 92 (.binS .eql 90 91)).y 84, q 93 (.pick 84 92 (.c (.bool false)))]) (.cond 93 (.s (.ops [q 94 (.mv 8), q 4 (.mv 94)]) .ret) .skip)) (.s (.ops [q 95 (.mv 8), q 96 (.binI .add 95 (ki 1)), q 8 (.mv 96)]) (.s (.ops [q 97 (.mv 10), q 98 (.binI .add 97 (ki 1)), q 10 (.mv 98)]) (.s (.ops [q 99 (.mv 5), q 100 (.load1 (.c (.gptr 2 0))), q 101 (.binI .leq 99 100), q 102 (.mv 101), (q 103 (.mv 10)).y 102, (q 104 (.mv 8)).y 102, (qc 105 67 [104]).y 102, (q 106 (.binI .gtr 103 105)).y 102, q 107 (.pick 102 106 (.c (.bool false)))]) (.cond 107 (.s (.ops [q0 (.ixB (.c .nils) (.c .nils))]) (.s (.s (.ops [q 113 (.mv 12), q 114 (.binI .geq 113 (ki 0))]) (.cond 114 C61_89 .skip)) (.s (.ops [q 4 (.mv (ki (-1)))]) .ret))) (.s (.ops [q 118 (.mv 5), q 119 (.load1 (.c (.gptr 2 0))), q 120 (.binI .gtr 118 119), q 121 (.mv 120), (q 122 (.mv 10)).y 121, (q 123 (.mv 8)).y 121, (q 124 (.binI .shr 123 (.c (.int .u64 4)))).y 121, (q 125 (.binI .add (ki 4) 124)).y 121, (q 126 (.binI .geq 122 125)).y 121, q 127 (.pick 121 126 (.c (.bool false))), q 128 (.mv 127), (q 129 (.mv 8)).y 128, (q 130 (.mv 9)).y 128, (q 131 (.binI .lss 129 130)).y 128, q 132 (.pick 128 131 (.c (.bool false)))]) (.cond 132 (.s (.ops [q 133 (.mv 0), q 134 (.mv 8), q 135 (.slS 133 (.some 134) .none), q 136 (.mv 1), qc 137 68 [135, 136], q 13 (.mv 137)]) (.s C61_102 C61_109)) .skip)))))))))
def C61_1 : ACode := .s (.ops [q 4 (.mv (ki 0))]) (.s (.ops [q 14 (.mv 1), q 15 (.lenS 14), q 5 (.mv 15)]) (.s (.block 0 (.s (.ops [q 17 (.mv 5), q 18 (.binI .eql 17 (ki 0)), q 19 (.mv 18), (q 20 (.mv 1)).n 19, (q 21 (.mv 0)).n 19, (q 22 (.binS .eql 20 21)).n 19, q 23 (.pick 19 (.c (.bool true)) 22), q 16 (.mv 23)]) (.cond 16 (.s (.ops [q 4 (.mv (ki 0))]) .ret) (.s (.ops [q 25 (.mv 5), q 26 (.binI .eql 25 (ki 1)), q 24 (.mv 26)]) (.cond 24 (.s (.ops [q 27 (.mv 0), q 28 (.mv 1), q 29 (.ixS 28 (ki 0)), qc 30 65 [27, 29], q 4 (.mv 30)]) .ret) (.s (.ops [q 32 (.mv 5), q 33 (.mv 0), q 34 (.lenS 33), q 35 (.binI .geq 32 34), q 31 (.mv 35)]) (.cond 31 (.s (.ops [q 4 (.mv (ki (-1)))]) .ret) (.s (.ops [q 37 (.mv 5), q 38 (.load1 (.c (.gptr 2 0))), q 39 (.binI .leq 37 38), q 40 (.mv 39), (q 41 (.mv 0)).y 40, (q 42 (.lenS 41)).y 40, (q 43 (.binI .leq 42 (ki 64))).y 40, q 44 (.pick 40 43 (.c (.bool false))), q 36 (.mv 44)]) C61_27)))))))) (.s (.ops [q 48 (.mv 1), q 49 (.ixS 48 (ki 0)), q 6 (.mv 49)]) (.s (.ops [q 50 (.mv 1), q 51 (.ixS 50 (ki 1)), q 7 (.mv 51)]) (.s (.ops [q 8 (.mv (ki 0))]) (.s (.ops [q 52 (.mv 0), q 53 (.lenS 52), q 54 (.mv 5), q 55 (.binI .sub 53 54), q 56 (.binI .add 55 (ki 1)), q 9 (.mv 56)]) (.s (.ops [q 10 (.mv (ki 0))]) (.s (.block 1 (.loop C61_45)) (.s (.ops [q 4 (.mv (ki (-1)))]) .ret)))))))))
def R61 : List RA := [(.tmp 4)]
theorem k61 : compF Tryd.prog (muL []) 61 = some ⟨143, C61_1, R61⟩ := by kernel_rfl
noncomputable abbrev X61 (r : Int) : Cx := cD Tryd.prog gE 143 R61 (AV.int .i64 r)
noncomputable def F61 (s : Str) (substr : Str) : Option Int :=
 (if (((substr).length : Int) == 0) = true then
  (some 0)
 else
  (if (substr == s) = true then
   (some 0)
  else
   (if (((substr).length : Int) == 1) = true then
    (ix substr 0 >>= fun b_4 =>
     (F65 s (b_4.toNat : Int) >>= fun r_6 =>
      (some r_6)))
   else
    (if (decide (((substr).length : Int) ≥ ((s).length : Int))) = true then
     (some (-1))
    else
     (none : Option Int)))))
theorem d61 (s : Str) (substr : Str) (r : Int) (hF : F61 s substr = some r) : DFun Tryd.prog gE 61 [AV.str s, AV.str substr] (AV.int .i64 r) := by
 unfold F61 at hF
 refine bD k61 rfl ?_
 have hs : SH [] [] := SH.nil
 generalize ([] : Store) = st at hs ⊢
 refine rn 7 rfl ?_
 refine bi hF (fun c_1 hF => ?_) (fun c_1 hF => ?_)
 · refine wfx 19 rfl c_1 ?_
   refine rn 5 rfl ?_
   refine ct rfl rfl ?_
   refine rn 1 rfl ?_
   cases hF
   exact rD (rlt rl0) rfl
 · refine wfx 19 rfl c_1 ?_
   refine rn 5 rfl ?_
   refine ci hF rfl (fun c_2 hF => ?_) (fun c_2 hF => ?_)
   · refine rn 1 rfl ?_
     cases hF
     exact rD (rlt rl0) rfl
   · refine rn 3 rfl ?_
     refine ci hF rfl (fun c_3 hF => ?_) (fun c_3 hF => ?_)
     · obtain ⟨b_4, g_5, hF⟩ := bind_some hF
       refine rn 2 rfl ?_
       refine W.o (e_ixS rfl rfl g_5) ?_
       obtain ⟨r_6, g_7, hF⟩ := bind_some hF
       refine df (d65 s (b_4.toNat : Int) _ g_7) rfl ?_
       refine rn 1 rfl ?_
       cases hF
       exact rD (rlt rl0) rfl
     · refine rn 5 rfl ?_
       refine ci hF rfl (fun c_8 hF => ?_) (fun c_8 hF => ?_)
       · refine rn 1 rfl ?_
         cases hF
         exact rD (rlt rl0) rfl
       · cases hF
/-! ### 54: internal/stringslite.Cut -/
def C54_1 : ACode := .s (.ops [q 4 (.mv (.c (.str []))), q 5 (.mv (.c (.str []))), q 6 (.mv (.c (.bool false)))]) (.s (.s (.ops [q 8 (.mv 0), q 9 (.mv 1), qc 10 61 [8, 9], q 7 (.mv 10)]) (.s (.ops [q 11 (.mv 7), q 12 (.binI .geq 11 (ki 0))]) (.cond 12 (.s (.draw [] 0 0 [q 13 (.mv 0), q 14 (.mv 7), q 15 (.slS 13 .none (.some 14)), q 16 (.mv 0), q 17 (.mv 7), q 18 (.mv 1), q 19 (.lenS 18), q 20 (.binI .add 17 19), q 21 (.slS 16 (.some 20) .none), q 4 (.mv 15), q 5 (.mv 21), q 6 (.mv (.c (.bool true)))] []) .ret) .skip))) (.s (.ops [q 22 (.mv 0), q 4 (.mv 22), q 5 (.mv (.c (.str []))), q 6 (.mv (.c (.bool false)))]) .ret))
def R54 : List RA := [(.tmp 4), (.tmp 5), (.tmp 6)]
theorem k54 : compF Tryd.prog (muL []) 54 = some ⟨23, C54_1, R54⟩ := by kernel_rfl
noncomputable abbrev X54 (r : Str × Str × Bool) : Cx := cD Tryd.prog gE 23 R54 (AV.tup [AV.str r.1, AV.str r.2.1, AV.bool r.2.2])
noncomputable def F54 (s : Str) (sep : Str) : Option (Str × Str × Bool) :=
 (F61 s sep >>= fun r_1 =>
  (if (decide (r_1 ≥ 0)) = true then
   (strcut s 0 r_1 >>= fun w_4 =>
    (strcut s (IntKind.wrap .i64 (r_1 + ((sep).length : Int))) ((s).length) >>= fun w_6 =>
     (some (w_4, w_6, true))))
  else
   (some (s, ([] : Str), false))))
theorem d54 (s : Str) (sep : Str) (r : Str × Str × Bool) (hF : F54 s sep = some r) : DFun Tryd.prog gE 54 [AV.str s, AV.str sep] (AV.tup [AV.str r.1, AV.str r.2.1, AV.bool r.2.2]) := by
 unfold F54 at hF
 refine bD k54 rfl ?_
 have hs : SH [] [] := SH.nil
 generalize ([] : Store) = st at hs ⊢
 obtain ⟨r_1, g_2, hF⟩ := bind_some hF
 refine rn 5 rfl ?_
 refine df (d61 s sep _ g_2) rfl ?_
 refine rn 3 rfl ?_
 refine ci hF rfl (fun c_3 hF => ?_) (fun c_3 hF => ?_)
 · refine rn 0 rfl ?_
   have h0 := hs
   refine dr0 ?_
   obtain ⟨w_4, g_5, hF⟩ := bind_some hF
   refine dn 2 rfl ?_
   refine de rfl (e_slSh rfl rfl g_5) ?_
   obtain ⟨w_6, g_7, hF⟩ := bind_some hF
   refine dn 5 rfl ?_
   refine de rfl (e_slSl rfl rfl g_7) ?_
   refine dn 3 rfl ?_
   refine dz ?_
   refine rn 0 rfl ?_
   cases hF
   exact rD (rlt (rlt (rlt rl0))) rfl
 · refine rn 4 rfl ?_
   cases hF
   exact rD (rlt (rlt (rlt rl0))) rfl
/-! ### 39: strings.Cut -/
def C39_1 : ACode := .s (.ops [q 4 (.mv (.c (.str []))), q 5 (.mv (.c (.str []))), q 6 (.mv (.c (.bool false)))]) (.s (.ops [q 7 (.mv 0), q 8 (.mv 1), qc 9 54 [7, 8], q 10 (.extract 9 0), q 11 (.extract 9 1), q 12 (.extract 9 2), q 4 (.mv 10), q 5 (.mv 11), q 6 (.mv 12)]) .ret)
def R39 : List RA := [(.tmp 4), (.tmp 5), (.tmp 6)]
theorem k39 : compF Tryd.prog (muL []) 39 = some ⟨13, C39_1, R39⟩ := by kernel_rfl
noncomputable abbrev X39 (r : Str × Str × Bool) : Cx := cD Tryd.prog gE 13 R39 (AV.tup [AV.str r.1, AV.str r.2.1, AV.bool r.2.2])
noncomputable def F39 (s : Str) (sep : Str) : Option (Str × Str × Bool) :=
 (F54 s sep >>= fun r_1 =>
  (some (r_1.1, r_1.2.1, r_1.2.2)))
theorem d39 (s : Str) (sep : Str) (r : Str × Str × Bool) (hF : F39 s sep = some r) : DFun Tryd.prog gE 39 [AV.str s, AV.str sep] (AV.tup [AV.str r.1, AV.str r.2.1, AV.bool r.2.2]) := by
 unfold F39 at hF
 refine bD k39 rfl ?_
 have hs : SH [] [] := SH.nil
 generalize ([] : Store) = st at hs ⊢
 obtain ⟨r_1, g_2, hF⟩ := bind_some hF
 refine rn 5 rfl ?_
 refine df (d54 s sep _ g_2) rfl ?_
 refine rn 6 rfl ?_
 cases hF
 exact rD (rlt (rlt (rlt rl0))) rfl
/-! ### 14: paddock/lines.Split -/
def C14_8 : ACode := .s (.s (.ops [q 7 (.mv 0), q 8 (.binS .neq 7 (.c (.str [])))]) (.cond 8 .skip (.exit 0))) (.block 1 (.s (.ops [q 10 (.mv 0), qc 11 39 [10, (.c (.str [10]))], q 9 (.mv 11), q 12 (.extract 9 0), q 13 (.extract 9 1), q 14 (.extract 9 2), q 4 (.mv 12), q 5 (.mv 13), q 6 (.mv 14)]) (.s (.ops [q 15 (.mv 3), q 16 (.mv 4), q 17 (.mv 6), q 18 (.build [(.str []), (.bool false)] [(0, (1, 16)), (1, (1, 17))]), q 19 (.bslice 2 1 true [(.str []), (.bool false)] [(0, (2, 18))] false), q 20 (.app 2 24 15 19), q 3 (.mv 20)]) (.ops [q 21 (.mv 5), q 0 (.mv 21)]))))
def C14_20 : ACode := .s (.ops [q 22 (.mv 3), q 2 (.mv 22)]) .ret
def C14_1 : ACode := .s (.ops [q 2 (.mv (.c .nils))]) (.s (.ops [q 3 (.mv (.c .nils))]) (.s (.block 0 (.loop C14_8)) C14_20))
def R14 : List RA := [(.tmp 2)]
theorem k14 : compF Tryd.prog (muL []) 14 = some ⟨23, C14_1, R14⟩ := by kernel_rfl
noncomputable abbrev X14 (K : AV → Store → Prop) : Cx := cK Tryd.prog gE 23 R14 K
inductive St14 where
 | p1 (s : Str) (out : Sl T25)
noncomputable def G14 : St14 → Option (Sl T25)
 | .p1 s out =>
  (if (!(s == ([] : Str))) = true then
   (F39 s ([10] : Str) >>= fun r_3 =>
    (if ((ls out).length + (ls (some ([({ Text := r_3.1, Whole := r_3.2.2 } : T25)] : List T25))).length) * 24 ≤ 140737488355328 then
     (G14 (.p1 r_3.2.1 (sapp out (ls (some ([({ Text := r_3.1, Whole := r_3.2.2 } : T25)] : List T25))))))
    else none))
  else
   (some out))
 partial_fixpoint
def M14 (x : St14) (r : Sl T25) : Prop := match x with
 | .p1 s out => ∀ (K : AV → Store → Prop) (Ls : List Asn), (∀ st id, SH st (ownA id r :: Ls) → K (ownV 2 v25 r id) st) → ∀ (tm : Fr) (st : Store) (io0 : Nat), Frm tm [(0, AV.str s), (3, ownV 2 v25 out io0)] → SH st (ownA io0 out :: Ls) → W (X14 K) [.lp C14_8, .blk 0, .code C14_20] tm st
theorem w14 : ∀ (x : St14) (r : Sl T25), G14 x = some r → M14 x r := by
 refine G14.partial_correctness M14 ?_
 intro g ih x r hF
 cases x with
 | p1 s out =>
  dsimp only at hF
  intro K Ls hK tm st io0 hf hs
  refine en hf ?_
  refine lp ?_
  refine rn 2 rfl ?_
  refine ci hF rfl (fun c_2 hF => ?_) (fun c_2 hF => ?_)
  · obtain ⟨r_3, g_4, hF⟩ := bind_some hF
    refine rn 1 rfl ?_
    refine df (d39 s ([10] : Str) _ g_4) rfl ?_
    refine rn 10 rfl ?_
    refine W.o (bR (cs := c25 ({ Text := r_3.1, Whole := r_3.2.2 } : T25)) rfl rfl) ?_
    refine bs (f := v25) ([({ Text := r_3.1, Whole := r_3.2.2 } : T25)] : List T25) hs rfl rfl rfl rfl fun st b_5 hs => ?_
    obtain ⟨g_6, hF⟩ := grd_some hF
    refine ap (ys := ls (some ([({ Text := r_3.1, Whole := r_3.2.2 } : T25)] : List T25))) hs 1 rfl rfl (ae_rd (rd_W (o := (some ([({ Text := r_3.1, Whole := r_3.2.2 } : T25)] : List T25))) (id := b_5) rfl)) g_6 (fun _ => rfl) fun st b_7 hs => ?_
    refine rn 3 rfl ?_
    exact ih (.p1 r_3.2.1 (sapp out (ls (some ([({ Text := r_3.1, Whole := r_3.2.2 } : T25)] : List T25))))) _ hF K Ls hK _ _ b_7 ⟨rfl, rfl, trivial⟩ (hs.p 2 [1] rfl)
  · refine rn 2 rfl ?_
    cases hF
    exact rK (rlt rl0) (hK _ _ (hs.p 1 [0] rfl)) rfl
noncomputable def F14 (s : Str) : Option (Sl T25) :=
 (G14 (.p1 s none))
theorem d14 (s : Str) (r : Sl T25) (hF : F14 s = some r) : ∀ (K : AV → Store → Prop) (Ls : List Asn) (st : Store), SH st Ls → (∀ st id, SH st (ownA id r :: Ls) → K (ownV 2 v25 r id) st) → XCall Tryd.prog gE 14 [AV.str s] st K := by
 unfold F14 at hF
 intro K Ls st hs hK
 refine bK k14 rfl ?_
 refine rn 2 rfl ?_
 have hs := hs.ownNil T25
 exact w14 (.p1 s none) _ hF K Ls hK _ _ 0 ⟨rfl, rfl, trivial⟩ hs
/-! ### 21: paddock/lines.Count -/
def C21_1 : ACode := .s (.ops [q 2 (.mv (ki 0))]) (.s (.ops [q 3 (.mv 0), qc 4 14 [3], q 5 (.len 4), q 2 (.mv 5)]) .ret)
def R21 : List RA := [(.tmp 2)]
theorem k21 : compF Tryd.prog (muL []) 21 = some ⟨6, C21_1, R21⟩ := by kernel_rfl
noncomputable abbrev X21 (r : Int) : Cx := cD Tryd.prog gE 6 R21 (AV.int .i64 r)
noncomputable def F21 (s : Str) : Option Int :=
 (F14 s >>= fun r_1 =>
  (some ((ls r_1).length : Int)))
theorem d21 (s : Str) (r : Int) (hF : F21 s = some r) : DFun Tryd.prog gE 21 [AV.str s] (AV.int .i64 r) := by
 unfold F21 at hF
 refine bD k21 rfl ?_
 have hs : SH [] [] := SH.nil
 generalize ([] : Store) = st at hs ⊢
 obtain ⟨r_1, g_2, hF⟩ := bind_some hF
 refine rn 2 rfl ?_
 refine df (dfun_own (fun st L K hs hK => d14 s _ g_2 K L st hs hK)) rfl ?_
 refine W.o (e_len (rd_V rfl)) ?_
 refine rn 1 rfl ?_
 cases hF
 exact rD (rlt rl0) rfl
/-! ### 45: paddock/lines.told -/
def C45_20 : ACode := .s (.ops [q 28 (.mv 0), q 29 (.binI .shr 28 (.c (.int .u64 6))), q 30 (.binI .add (ku 48) 29), q 31 (.mv 0), q 32 (.binI .shr 31 (.c (.int .u64 3))), q 33 (.binI .and 32 (ku 7)), q 34 (.binI .add (ku 48) 33), q 35 (.mv 0), q 36 (.binI .and 35 (ku 7)), q 37 (.binI .add (ku 48) 36), q 38 (.bslice 1 4 false [(.int .u8 0)] [(0, (1, (ku 92))), (1, (1, 30)), (2, (1, 34)), (3, (1, 37))] false), q 39 (.b2s 38), q 2 (.mv 39)]) .ret
def C45_17 : ACode := .s (.ops [q 22 (.mv 0), q 23 (.binI .lss 22 (ku 32)), q 24 (.mv 23), (q 25 (.mv 0)).n 24, (q 26 (.binI .geq 25 (ku 127))).n 24, q 27 (.pick 24 (.c (.bool true)) 26), q 21 (.mv 27)]) (.cond 21 C45_20 .skip)
def C45_24 : ACode := .s (.ops [q 40 (.mv 0), q 41 (.bslice 1 1 false [(.int .u8 0)] [(0, (1, 40))] false), q 42 (.b2s 41), q 2 (.mv 42)]) .ret
def C45_1 : ACode := .s (.ops [q 2 (.mv (.c (.str [])))]) (.s (.block 0 (.s (.ops [q 4 (.mv 0), q 5 (.binI .eql 4 (ku 92)), q 3 (.mv 5)]) (.cond 3 (.s (.ops [q 2 (.mv (.c (.str [92, 92])))]) .ret) (.s (.ops [q 7 (.mv 0), q 8 (.cvI .i64 7), q 9 (.binI .lss 8 (ki 14)), q 10 (.mv 9), (q 11 (.mv 0)).y 10, (q 12 (.iaddrA 14 1 (.c (.gptr 1 0)) 11)).y 10, (q 13 (.load1 12)).y 10, (q 14 (.binI .neq 13 (ku 0))).y 10, q 15 (.pick 10 14 (.c (.bool false))), q 6 (.mv 15)]) (.cond 6 (.s (.ops [q 16 (.mv 0), q 17 (.iaddrA 14 1 (.c (.gptr 1 0)) 16), q 18 (.load1 17), q 19 (.bslice 1 2 false [(.int .u8 0)] [(0, (1, (ku 92))), (1, (1, 18))] false), q 20 (.b2s 19), q 2 (.mv 20)]) .ret) C45_17))))) C45_24)
def R45 : List RA := [(.tmp 2)]
theorem k45 : compF Tryd.prog (muL []) 45 = some ⟨43, C45_1, R45⟩ := by kernel_rfl
noncomputable abbrev X45 (r : Str) : Cx := cD Tryd.prog gE 43 R45 (AV.str r)
inductive St45 where
 | p1 (c : Int)
 | p2 (c : Int)
noncomputable def G45 : St45 → Option Str
 | .p1 c =>
  (if (decide (c < 32)) = true then
   (G45 (.p2 c))
  else
   (if (decide (c ≥ 127)) = true then
    (G45 (.p2 c))
   else
    (some (toBs (ls (some ([c] : List Int)))))))
 | .p2 c =>
  (some (toBs (ls (some ([92, IntKind.wrap .u8 (48 + (shrI .u8 c 6)), IntKind.wrap .u8 (48 + (andI .u8 (shrI .u8 c 3) 7)), IntKind.wrap .u8 (48 + (andI .u8 c 7))] : List Int)))))
 partial_fixpoint
def M45 (x : St45) (r : Str) : Prop := match x with
 | .p1 c => ∀ (tm : Fr) (st : Store), Frm tm [(0, AV.int .u8 c)] → SH st [] → W (X45 r) [.code C45_17, .blk 0, .code C45_24] tm st
 | .p2 c => ∀ (tm : Fr) (st : Store), Frm tm [(0, AV.int .u8 c)] → SH st [] → W (X45 r) [.code C45_20, .blk 0, .code C45_24] tm st
theorem w45 : ∀ (x : St45) (r : Str), G45 x = some r → M45 x r := by
 refine G45.partial_correctness M45 ?_
 intro g ih x r hF
 cases x with
 | p1 c =>
  dsimp only at hF
  intro tm st hf hs
  refine en hf ?_
  refine rn 3 rfl ?_
  refine bi hF (fun c_11 hF => ?_) (fun c_11 hF => ?_)
  · refine wfx 24 rfl c_11 ?_
    refine rn 4 rfl ?_
    refine ct rfl rfl ?_
    exact ih (.p2 c) _ hF _ _ ⟨rfl, trivial⟩ hs
  · refine wfx 24 rfl c_11 ?_
    refine rn 4 rfl ?_
    refine ci hF rfl (fun c_12 hF => ?_) (fun c_12 hF => ?_)
    · exact ih (.p2 c) _ hF _ _ ⟨rfl, trivial⟩ hs
    · refine rn 1 rfl ?_
      refine bs (f := AV.int .u8) ([c] : List Int) hs rfl rfl rfl rfl fun st b_13 hs => ?_
      refine W.o (e_b2s (rd_W (o := (some ([c] : List Int))) (id := b_13) rfl)) ?_
      refine rn 1 rfl ?_
      cases hF
      exact rD (rlt rl0) rfl
 | p2 c =>
  dsimp only at hF
  intro tm st hf hs
  refine en hf ?_
  refine rn 1 rfl ?_
  refine W.o (e_bin rfl rfl (op_shr _ _ _ _ (by decide))) ?_
  refine rn 2 rfl ?_
  refine W.o (e_bin rfl rfl (op_shr _ _ _ _ (by decide))) ?_
  refine rn 5 rfl ?_
  refine bs (f := AV.int .u8) ([92, IntKind.wrap .u8 (48 + (shrI .u8 c 6)), IntKind.wrap .u8 (48 + (andI .u8 (shrI .u8 c 3) 7)), IntKind.wrap .u8 (48 + (andI .u8 c 7))] : List Int) hs rfl rfl rfl rfl fun st b_14 hs => ?_
  refine W.o (e_b2s (rd_W (o := (some ([92, IntKind.wrap .u8 (48 + (shrI .u8 c 6)), IntKind.wrap .u8 (48 + (andI .u8 (shrI .u8 c 3) 7)), IntKind.wrap .u8 (48 + (andI .u8 c 7))] : List Int))) (id := b_14) rfl)) ?_
  refine rn 1 rfl ?_
  cases hF
  exact rD (rlt rl0) rfl
noncomputable def F45 (c : Int) : Option Str :=
 (if (c == 92) = true then
  (some ([92, 92] : Str))
 else
  (if (decide ((IntKind.wrap .i64 c) < 14)) = true then
   (if 0 ≤ c ∧ c < (14 : Int) then
    (ix g1.l c >>= fun v_4 =>
     (if (v_4 != 0) = true then
      (if 0 ≤ c ∧ c < (14 : Int) then
       (ix g1.l c >>= fun v_8 =>
        (some (toBs (ls (some ([92, v_8] : List Int))))))
      else none)
     else
      (G45 (.p1 c))))
   else none)
  else
   (G45 (.p1 c))))
theorem d45 (c : Int) (r : Str) (hF : F45 c = some r) : DFun Tryd.prog gE 45 [AV.int .u8 c] (AV.str r) := by
 unfold F45 at hF
 refine bD k45 rfl ?_
 have hs : SH [] [] := SH.nil
 generalize ([] : Store) = st at hs ⊢
 refine rn 4 rfl ?_
 refine ci hF rfl (fun c_1 hF => ?_) (fun c_1 hF => ?_)
 · refine rn 1 rfl ?_
   cases hF
   exact rD (rlt rl0) rfl
 · refine rn 4 rfl ?_
   refine bi hF (fun c_2 hF => ?_) (fun c_2 hF => ?_)
   · refine wfx 10 rfl c_2 ?_
     obtain ⟨g_3, hF⟩ := grd_some hF
     refine rn 1 rfl ?_
     refine W.on rfl rfl ?_
     refine W.o (e_iaddrAG rfl rfl g_3) ?_
     obtain ⟨v_4, g_5, hF⟩ := bind_some hF
     refine W.on rfl rfl ?_
     refine W.o (e_load1G rfl (rfl : gE 1 = some (c87 g1)) (LR.comp (LR.whole _ _) (lrF_get (cI_len .u8) g_5))) ?_
     refine rn 3 rfl ?_
     refine ci hF rfl (fun c_6 hF => ?_) (fun c_6 hF => ?_)
     · obtain ⟨g_7, hF⟩ := grd_some hF
       refine rn 1 rfl ?_
       refine W.o (e_iaddrAG rfl rfl g_7) ?_
       obtain ⟨v_8, g_9, hF⟩ := bind_some hF
       refine W.o (e_load1G rfl (rfl : gE 1 = some (c87 g1)) (LR.comp (LR.whole _ _) (lrF_get (cI_len .u8) g_9))) ?_
       refine bs (f := AV.int .u8) ([92, v_8] : List Int) hs rfl rfl rfl rfl fun st b_10 hs => ?_
       refine W.o (e_b2s (rd_W (o := (some ([92, v_8] : List Int))) (id := b_10) rfl)) ?_
       refine rn 1 rfl ?_
       cases hF
       exact rD (rlt rl0) rfl
     · exact w45 (.p1 c) _ hF _ _ ⟨rfl, trivial⟩ hs
   · refine wfx 10 rfl c_2 ?_
     refine rn 6 rfl ?_
     refine cf rfl rfl ?_
     exact w45 (.p1 c) _ hF _ _ ⟨rfl, trivial⟩ hs
/-! ### 56: paddock/lines.goes -/
def C56_8 : ACode := .s (.s (.ops [q 10 (.mv 1), q 11 (.binI .lss 10 (ki 2))]) (.cond 11 .skip (.exit 0))) (.s (.block 1 (.ops [q 14 (.mv 5), q 15 (.binI .mul (ki 8) 14), q 16 (.mv 6), q 17 (.binI .mul (ki 8) 16), q 18 (.binI .add 17 (ki 7)), q 5 (.mv 15), q 6 (.mv 18)])) (.ops [q 12 (.mv 1), q 13 (.binI .add 12 (ki 1)), q 1 (.mv 13)]))
def C56_33 : ACode := .cond 33 (.s (.ops [q 4 (.mv (.c (.bool true)))]) .ret) .skip
def C56_23 : ACode := .s (.s (.ops [q 20 (.mv 7), q 21 (.mv 6), q 22 (.binI .leq 20 21), q 23 (.mv 22), (q 24 (.mv 7)).y 23, (q 25 (.binI .lss 24 (ki 256))).y 23, q 26 (.pick 23 25 (.c (.bool false)))]) (.cond 26 .skip (.exit 2))) (.s (.block 3 (.s (.ops [q 29 (.mv 7), q 30 (.cvI .u8 29), qc 31 45 [30], q 32 (.lenS 31), q 33 (.binI .eql 32 (ki 4))]) C56_33)) (.ops [q 27 (.mv 7), q 28 (.binI .add 27 (ki 1)), q 7 (.mv 28)]))
def C56_39 : ACode := .s (.ops [q 4 (.mv (.c (.bool false)))]) .ret
def C56_18 : ACode := .s (.s (.ops [q 19 (.mv 5), q 7 (.mv 19)]) (.block 2 (.loop C56_23))) C56_39
def C56_1 : ACode := .s (.ops [q 4 (.mv (.c (.bool false)))]) (.s (.ops [q 8 (.mv 0), q 9 (.mv 0), q 5 (.mv 8), q 6 (.mv 9)]) (.s (.block 0 (.loop C56_8)) C56_18))
def R56 : List RA := [(.tmp 4)]
theorem k56 : compF Tryd.prog (muL []) 56 = some ⟨34, C56_1, R56⟩ := by kernel_rfl
noncomputable abbrev X56 (r : Bool) : Cx := cD Tryd.prog gE 34 R56 (AV.bool r)
inductive St56 where
 | p1 (k : Int) (low : Int) (high : Int)
 | p2 (high : Int) (c : Int)
noncomputable def G56 : St56 → Option Bool
 | .p1 k low high =>
  (if (decide (k < 2)) = true then
   (G56 (.p1 (IntKind.wrap .i64 (k + 1)) (IntKind.wrap .i64 (8 * low)) (IntKind.wrap .i64 ((IntKind.wrap .i64 (8 * high)) + 7))))
  else
   (G56 (.p2 high low)))
 | .p2 high c =>
  (if (decide (c ≤ high)) = true then
   (if (decide (c < 256)) = true then
    (F45 (IntKind.wrap .u8 c) >>= fun r_4 =>
     (if (((r_4).length : Int) == 4) = true then
      (some true)
     else
      (G56 (.p2 high (IntKind.wrap .i64 (c + 1))))))
   else
    (some false))
  else
   (some false))
 partial_fixpoint
def M56 (x : St56) (r : Bool) : Prop := match x with
 | .p1 k low high => ∀ (tm : Fr) (st : Store), Frm tm [(1, AV.int .i64 k), (5, AV.int .i64 low), (6, AV.int .i64 high)] → SH st [] → W (X56 r) [.lp C56_8, .blk 0, .code C56_18] tm st
 | .p2 high c => ∀ (tm : Fr) (st : Store), Frm tm [(6, AV.int .i64 high), (7, AV.int .i64 c)] → SH st [] → W (X56 r) [.lp C56_23, .blk 2, .code C56_39] tm st
theorem w56 : ∀ (x : St56) (r : Bool), G56 x = some r → M56 x r := by
 refine G56.partial_correctness M56 ?_
 intro g ih x r hF
 cases x with
 | p1 k low high =>
  dsimp only at hF
  intro tm st hf hs
  refine en hf ?_
  refine lp ?_
  refine rn 2 rfl ?_
  refine ci hF rfl (fun c_1 hF => ?_) (fun c_1 hF => ?_)
  · refine rn 10 rfl ?_
    exact ih (.p1 (IntKind.wrap .i64 (k + 1)) (IntKind.wrap .i64 (8 * low)) (IntKind.wrap .i64 ((IntKind.wrap .i64 (8 * high)) + 7))) _ hF _ _ ⟨rfl, rfl, rfl, trivial⟩ hs
  · refine rn 2 rfl ?_
    exact ih (.p2 high low) _ hF _ _ ⟨rfl, rfl, trivial⟩ hs
 | p2 high c =>
  dsimp only at hF
  intro tm st hf hs
  refine en hf ?_
  refine lp ?_
  refine rn 4 rfl ?_
  refine bi hF (fun c_2 hF => ?_) (fun c_2 hF => ?_)
  · refine wfx 23 rfl c_2 ?_
    refine rn 3 rfl ?_
    refine ci hF rfl (fun c_3 hF => ?_) (fun c_3 hF => ?_)
    · obtain ⟨r_4, g_5, hF⟩ := bind_some hF
      refine rn 2 rfl ?_
      refine df (d45 (IntKind.wrap .u8 c) _ g_5) rfl ?_
      refine rn 2 rfl ?_
      refine ci hF rfl (fun c_6 hF => ?_) (fun c_6 hF => ?_)
      · refine rn 1 rfl ?_
        cases hF
        exact rD (rlt rl0) rfl
      · refine rn 3 rfl ?_
        exact ih (.p2 high (IntKind.wrap .i64 (c + 1))) _ hF _ _ ⟨rfl, rfl, trivial⟩ hs
    · refine rn 1 rfl ?_
      cases hF
      exact rD (rlt rl0) rfl
  · refine wfx 23 rfl c_2 ?_
    refine rn 3 rfl ?_
    refine cf rfl rfl ?_
    refine rn 1 rfl ?_
    cases hF
    exact rD (rlt rl0) rfl
noncomputable def F56 (n : Int) (k : Int) : Option Bool :=
 (G56 (.p1 k n n))
theorem d56 (n : Int) (k : Int) (r : Bool) (hF : F56 n k = some r) : DFun Tryd.prog gE 56 [AV.int .i64 n, AV.int .i64 k] (AV.bool r) := by
 unfold F56 at hF
 refine bD k56 rfl ?_
 have hs : SH [] [] := SH.nil
 generalize ([] : Store) = st at hs ⊢
 refine rn 5 rfl ?_
 exact w56 (.p1 k n n) _ hF _ _ ⟨rfl, rfl, rfl, trivial⟩ hs
end Go.Proofs.YtllhdbdbdblimaaDoor
