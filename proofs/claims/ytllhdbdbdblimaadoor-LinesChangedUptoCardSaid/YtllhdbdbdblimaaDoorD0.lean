/-
  Functions of the program's as plain functions.
-/
import Derived.Test.YtllhdbdbdblimaaDoorIt
set_option linter.unusedVariables false
set_option maxRecDepth 4000
set_option maxHeartbeats 4000000
namespace Go.Proofs.YtllhdbdbdblimaaDoor
open Go AW
attribute [local irreducible] W WD SH XS XLoop DFun XCall
/-! ### 65: internal/stringslite.IndexByte -/
def C65_1 : ACode := .s (.ops [q 4 (.mv (ki 0))]) (.s (.ops [q 5 (.mv 0), q 6 (.mv 1), q 7 (.ixB 5 6), q 4 (.mv 7)]) .ret)
def R65 : List RA := [(.tmp 4)]
theorem k65 : compF Tryd.prog (muL []) 65 = some ⟨8, C65_1, R65⟩ := by kernel_rfl
noncomputable abbrev X65 (r : Int) : Cx := cD Tryd.prog gE 8 R65 (AV.int .i64 r)
noncomputable def F65 (s : Str) (c : Int) : Option Int :=
 (some (ixByte s c))
theorem d65 (s : Str) (c : Int) (r : Int) (hF : F65 s c = some r) : DFun Tryd.prog gE 65 [AV.str s, AV.int .u8 c] (AV.int .i64 r) := by
 unfold F65 at hF
 refine bD k65 rfl ?_
 have hs : SH [] [] := SH.nil
 generalize ([] : Store) = st at hs ⊢
 refine rn 3 rfl ?_
 refine W.o (e_ixB rfl rfl) ?_
 refine rn 1 rfl ?_
 cases hF
 exact rD (rlt rl0) rfl
/-! ### 61: internal/stringslite.Index -/
def C61_27 : ACode := .cond 36 (.s (.ops [q0 (.ixB (.c .nils) (.c .nils))]) .ret) .skip
def C61_89 : ACode := .s (.ops [q 115 (.mv 12), q 116 (.mv 8), q 117 (.binI .add 115 116), q 4 (.mv 117)]) .ret
def C61_102 : ACode := .s (.ops [q 138 (.mv 13), q 139 (.binI .lss 138 (ki 0))]) (.cond 139 (.s (.ops [q 4 (.mv (ki (-1)))]) .ret) .skip)
def C61_109 : ACode := .s (.ops [q 140 (.mv 8), q 141 (.mv 13), q 142 (.binI .add 140 141), q 4 (.mv 142)]) .ret
def C61_45 : ACode := .s (.s (.ops [q 57 (.mv 8), q 58 (.mv 9), q 59 (.binI .lss 57 58)]) (.cond 59 .skip (.exit 1))) (.block 2 (.s (.s (.ops [q 60 (.mv 0), q 61 (.mv 8), q 62 (.ixS 60 61), q 63 (.mv 6), q 64 (.binI .neq 62 63)]) (.cond 64 (.s (.ops [q 65 (.mv 0), q 66 (.mv 8), q 67 (.binI .add 66 (ki 1)), q 68 (.mv 9), q 69 (.slS 65 (.some 67) (.some 68)), q 70 (.mv 6), qc 71 65 [69, 70], q 11 (.mv 71)]) (.s (.s (.ops [q 72 (.mv 11), q 73 (.binI .lss 72 (ki 0))]) (.cond 73 (.s (.ops [q 4 (.mv (ki (-1)))]) .ret) .skip)) (.ops [q 74 (.mv 8), q 75 (.mv 11), q 76 (.binI .add 75 (ki 1)), q 77 (.binI .add 74 76), q 8 (.mv 77)]))) .skip)) (.s (.s (.ops [q 78 (.mv 0), q 79 (.mv 8), q 80 (.binI .add 79 (ki 1)), q 81 (.ixS 78 80), q 82 (.mv 7), q 83 (.binI .eql 81 82), q 84 (.mv 83), (q 85 (.mv 0)).y 84, (q 86 (.mv 8)).y 84, (q 87 (.mv 8)).y 84, (q 88 (.mv 5)).y 84, (q 89 (.binI .add 87 88)).y 84, (q 90 (.slS 85 (.some 86) (.some 89))).y 84, (q 91 (.mv 1)).y 84, (q 92 (.binS .eql 90 91)).y 84, q 93 (.pick 84 92 (.c (.bool false)))]) (.cond 93 (.s (.ops [q 94 (.mv 8), q 4 (.mv 94)]) .ret) .skip)) (.s (.ops [q 95 (.mv 8), q 96 (.binI .add 95 (ki 1)), q 8 (.mv 96)]) (.s (.ops [q 97 (.mv 10), q 98 (.binI .add 97 (ki 1)), q 10 (.mv 98)]) (.s (.ops [q 99 (.mv 5), q 100 (.load1 (.c (.gptr 2 0))), q 101 (.binI .leq 99 100), q 102 (.mv 101), (q 103 (.mv 10)).y 102, (q 104 (.mv 8)).y 102, (qc 105 67 [104]).y 102, (q 106 (.binI .gtr 103 105)).y 102, q 107 (.pick 102 106 (.c (.bool false)))]) (.cond 107 (.s (.ops [q0 (.ixB (.c .nils) (.c .nils))]) (.s (.s (.ops [q 113 (.mv 12), q 114 (.binI .geq 113 (ki 0))]) (.cond 114 C61_89 .skip)) (.s (.ops [q 4 (.mv (ki (-1)))]) .ret))) (.s (.ops [q 118 (.mv 5), q 119 (.load1 (.c (.gptr 2 0))), q 120 (.binI .gtr 118 119), q 121 (.mv 120), (q 122 (.mv 10)).y 121, (q 123 (.mv 8)).y 121, (q 124 (.binI .shr 123 (.c (.int .u64 4)))).y 121, (q 125 (.binI .add (ki 4) 124)).y 121, (q 126 (.binI .geq 122 125)).y 121, q 127 (.pick 121 126 (.c (.bool false))), q 128 (.mv 127), (q 129 (.mv 8)).y 128, (q 130 (.mv 9)).y 128, (q 131 (.binI .lss 129 130)).y 128, q 132 (.pick 128 131 (.c (.bool false)))]) (.cond 132 (.s (.ops [q 133 (.mv 0), q 134 (.mv 8), q 135 (.slS 133 (.some 134) .none), q 136 (.mv 1), qc 137 68 [135, 136], q 13 (.mv 137)]) (.s C61_102 C61_109)) .skip)))))))))
def C61_1 : ACode := .s (.ops [q 4 (.mv (ki 0))]) (.s (.ops [q 14 (.mv 1), q 15 (.lenS 14), q 5 (.mv 15)]) (.s (.block 0 (.s (.ops [q 17 (.mv 5), q 18 (.binI .eql 17 (ki 0)), q 19 (.mv 18), (q 20 (.mv 1)).n 19, (q 21 (.mv 0)).n 19, (q 22 (.binS .eql 20 21)).n 19, q 23 (.pick 19 (.c (.bool true)) 22), q 16 (.mv 23)]) (.cond 16 (.s (.ops [q 4 (.mv (ki 0))]) .ret) (.s (.ops [q 25 (.mv 5), q 26 (.binI .eql 25 (ki 1)), q 24 (.mv 26)]) (.cond 24 (.s (.ops [q 27 (.mv 0), q 28 (.mv 1), q 29 (.ixS 28 (ki 0)), qc 30 65 [27, 29], q 4 (.mv 30)]) .ret) (.s (.ops [q 32 (.mv 5), q 33 (.mv 0), q 34 (.lenS 33), q 35 (.binI .geq 32 34), q 31 (.mv 35)]) (.cond 31 (.s (.ops [q 4 (.mv (ki (-1)))]) .ret) (.s (.ops [q 37 (.mv 5), q 38 (.load1 (.c (.gptr 2 0))), q 39 (.binI .leq 37 38), q 40 (.mv 39), (q 41 (.mv 0)).y 40, (q 42 (.lenS 41)).y 40, (q 43 (.binI .leq 42 (ki 64))).y 40, q 44 (.pick 40 43 (.c (.bool false))), q 36 (.mv 44)]) C61_27)))))))) (.s (.ops [q 48 (.mv 1), q 49 (.ixS 48 (ki 0)), q 6 (.mv 49)]) (.s (.ops [q 50 (.mv 1), q 51 (.ixS 50 (ki 1)), q 7 (.mv 51)]) (.s (.ops [q 8 (.mv (ki 0))]) (.s (.ops [q 52 (.mv 0), q 53 (.lenS 52), q 54 (.mv 5), q 55 (.binI .sub 53 54), q 56 (.binI .add 55 (ki 1)), q 9 (.mv 56)]) (.s (.ops [q 10 (.mv (ki 0))]) (.s (.block 1 (.loop C61_45)) (.s (.ops [q 4 (.mv (ki (-1)))]) .ret)))))))))
def R61 : List RA := [(.tmp 4)]
theorem k61 : compF Tryd.prog (muL []) 61 = some ⟨143, C61_1, R61⟩ := by kernel_rfl
noncomputable abbrev X61 (r : Int) : Cx := cD Tryd.prog gE 143 R61 (AV.int .i64 r)
noncomputable def F61 (s : Str) (substr : Str) : Option Int :=
 (if (((substr).length : Int) == 0) = true then
  (some 0)
 else
  (if (substr == s) = true then
   (some 0)
  else
   (if (((substr).length : Int) == 1) = true then
    (ix substr 0 >>= fun b_4 =>
     (F65 s (b_4.toNat : Int) >>= fun r_6 =>
      (some r_6)))
   else
    (if (decide (((substr).length : Int) ≥ ((s).length : Int))) = true then
     (some (-1))
    else
     (none : Option Int)))))
theorem d61 (s : Str) (substr : Str) (r : Int) (hF : F61 s substr = some r) : DFun Tryd.prog gE 61 [AV.str s, AV.str substr] (AV.int .i64 r) := by
 unfold F61 at hF
 refine bD k61 rfl ?_
 have hs : SH [] [] := SH.nil
 generalize ([] : Store) = st at hs ⊢
 refine rn 7 rfl ?_
 refine bi hF (fun c_1 hF => ?_) (fun c_1 hF => ?_)
 · refine wfx 19 rfl c_1 ?_
   refine rn 5 rfl ?_
   refine ct rfl rfl ?_
   refine rn 1 rfl ?_
   cases hF
   exact rD (rlt rl0) rfl
 · refine wfx 19 rfl c_1 ?_
   refine rn 5 rfl ?_
   refine ci hF rfl (fun c_2 hF => ?_) (fun c_2 hF => ?_)
   · refine rn 1 rfl ?_
     cases hF
     exact rD (rlt rl0) rfl
   · refine rn 3 rfl ?_
     refine ci hF rfl (fun c_3 hF => ?_) (fun c_3 hF => ?_)
     · obtain ⟨b_4, g_5, hF⟩ := bind_some hF
       refine rn 2 rfl ?_
       refine W.o (e_ixS rfl rfl g_5) ?_
       obtain ⟨r_6, g_7, hF⟩ := bind_some hF
       refine df (d65 s (b_4.toNat : Int) _ g_7) rfl ?_
       refine rn 1 rfl ?_
       cases hF
       exact rD (rlt rl0) rfl
     · refine rn 5 rfl ?_
       refine ci hF rfl (fun c_8 hF => ?_) (fun c_8 hF => ?_)
       · refine rn 1 rfl ?_
         cases hF
         exact rD (rlt rl0) rfl
       · cases hF
/-! ### 54: internal/stringslite.Cut -/
def C54_1 : ACode := .s (.ops [q 4 (.mv (.c (.str []))), q 5 (.mv (.c (.str []))), q 6 (.mv (.c (.bool false)))]) (.s (.s (.ops [q 8 (.mv 0), q 9 (.mv 1), qc 10 61 [8, 9], q 7 (.mv 10)]) (.s (.ops [q 11 (.mv 7), q 12 (.binI .geq 11 (ki 0))]) (.cond 12 (.s (.draw [] 0 0 [q 13 (.mv 0), q 14 (.mv 7), q 15 (.slS 13 .none (.some 14)), q 16 (.mv 0), q 17 (.mv 7), q 18 (.mv 1), q 19 (.lenS 18), q 20 (.binI .add 17 19), q 21 (.slS 16 (.some 20) .none), q 4 (.mv 15), q 5 (.mv 21), q 6 (.mv (.c (.bool true)))] []) .ret) .skip))) (.s (.ops [q 22 (.mv 0), q 4 (.mv 22), q 5 (.mv (.c (.str []))), q 6 (.mv (.c (.bool false)))]) .ret))
def R54 : List RA := [(.tmp 4), (.tmp 5), (.tmp 6)]
theorem k54 : compF Tryd.prog (muL []) 54 = some ⟨23, C54_1, R54⟩ := by kernel_rfl
noncomputable abbrev X54 (r : Str × Str × Bool) : Cx := cD Tryd.prog gE 23 R54 (AV.tup [AV.str r.1, AV.str r.2.1, AV.bool r.2.2])
noncomputable def F54 (s : Str) (sep : Str) : Option (Str × Str × Bool) :=
 (F61 s sep >>= fun r_1 =>
  (if (decide (r_1 ≥ 0)) = true then
   (strcut s 0 r_1 >>= fun w_4 =>
    (strcut s (IntKind.wrap .i64 (r_1 + ((sep).length : Int))) ((s).length) >>= fun w_6 =>
     (some (w_4, w_6, true))))
  else
   (some (s, ([] : Str), false))))
theorem d54 (s : Str) (sep : Str) (r : Str × Str × Bool) (hF : F54 s sep = some r) : DFun Tryd.prog gE 54 [AV.str s, AV.str sep] (AV.tup [AV.str r.1, AV.str r.2.1, AV.bool r.2.2]) := by
 unfold F54 at hF
 refine bD k54 rfl ?_
 have hs : SH [] [] := SH.nil
 generalize ([] : Store) = st at hs ⊢
 obtain ⟨r_1, g_2, hF⟩ := bind_some hF
 refine rn 5 rfl ?_
 refine df (d61 s sep _ g_2) rfl ?_
 refine rn 3 rfl ?_
 refine ci hF rfl (fun c_3 hF => ?_) (fun c_3 hF => ?_)
 · refine rn 0 rfl ?_
   have h0 := hs
   refine dr0 ?_
   obtain ⟨w_4, g_5, hF⟩ := bind_some hF
   refine dn 2 rfl ?_
   refine de rfl (e_slSh rfl rfl g_5) ?_
   obtain ⟨w_6, g_7, hF⟩ := bind_some hF
   refine dn 5 rfl ?_
   refine de rfl (e_slSl rfl rfl g_7) ?_
   refine dn 3 rfl ?_
   refine dz ?_
   refine rn 0 rfl ?_
   cases hF
   exact rD (rlt (rlt (rlt rl0))) rfl
 · refine rn 4 rfl ?_
   cases hF
   exact rD (rlt (rlt (rlt rl0))) rfl
/-! ### 39: strings.Cut -/
def C39_1 : ACode := .s (.ops [q 4 (.mv (.c (.str []))), q 5 (.mv (.c (.str []))), q 6 (.mv (.c (.bool false)))]) (.s (.ops [q 7 (.mv 0), q 8 (.mv 1), qc 9 54 [7, 8], q 10 (.extract 9 0), q 11 (.extract 9 1), q 12 (.extract 9 2), q 4 (.mv 10), q 5 (.mv 11), q 6 (.mv 12)]) .ret)
def R39 : List RA := [(.tmp 4), (.tmp 5), (.tmp 6)]
theorem k39 : compF Tryd.prog (muL []) 39 = some ⟨13, C39_1, R39⟩ := by kernel_rfl
noncomputable abbrev X39 (r : Str × Str × Bool) : Cx := cD Tryd.prog gE 13 R39 (AV.tup [AV.str r.1, AV.str r.2.1, AV.bool r.2.2])
noncomputable def F39 (s : Str) (sep : Str) : Option (Str × Str × Bool) :=
 (F54 s sep >>= fun r_1 =>
  (some (r_1.1, r_1.2.1, r_1.2.2)))
theorem d39 (s : Str) (sep : Str) (r : Str × Str × Bool) (hF : F39 s sep = some r) : DFun Tryd.prog gE 39 [AV.str s, AV.str sep] (AV.tup [AV.str r.1, AV.str r.2.1, AV.bool r.2.2]) := by
 unfold F39 at hF
 refine bD k39 rfl ?_
 have hs : SH [] [] := SH.nil
 generalize ([] : Store) = st at hs ⊢
 obtain ⟨r_1, g_2, hF⟩ := bind_some hF
 refine rn 5 rfl ?_
 refine df (d54 s sep _ g_2) rfl ?_
 refine rn 6 rfl ?_
 cases hF
 exact rD (rlt (rlt (rlt rl0))) rfl
/-! ### 14: paddock/lines.Split -/
def C14_8 : ACode := .s (.s (.ops [q 7 (.mv 0), q 8 (.binS .neq 7 (.c (.str [])))]) (.cond 8 .skip (.exit 0))) (.block 1 (.s (.ops [q 10 (.mv 0), qc 11 39 [10, (.c (.str [10]))], q 9 (.mv 11), q 12 (.extract 9 0), q 13 (.extract 9 1), q 14 (.extract 9 2), q 4 (.mv 12), q 5 (.mv 13), q 6 (.mv 14)]) (.s (.ops [q 15 (.mv 3), q 16 (.mv 4), q 17 (.mv 6), q 18 (.build [(.str []), (.bool false)] [(0, (1, 16)), (1, (1, 17))]), q 19 (.bslice 2 1 true [(.str []), (.bool false)] [(0, (2, 18))] false), q 20 (.app 2 24 15 19), q 3 (.mv 20)]) (.ops [q 21 (.mv 5), q 0 (.mv 21)]))))
def C14_20 : ACode := .s (.ops [q 22 (.mv 3), q 2 (.mv 22)]) .ret
def C14_1 : ACode := .s (.ops [q 2 (.mv (.c .nils))]) (.s (.ops [q 3 (.mv (.c .nils))]) (.s (.block 0 (.loop C14_8)) C14_20))
def R14 : List RA := [(.tmp 2)]
theorem k14 : compF Tryd.prog (muL []) 14 = some ⟨23, C14_1, R14⟩ := by kernel_rfl
noncomputable abbrev X14 (K : AV → Store → Prop) : Cx := cK Tryd.prog gE 23 R14 K
inductive St14 where
 | p1 (s : Str) (out : Sl T25)
noncomputable def G14 : St14 → Option (Sl T25)
 | .p1 s out =>
  (if (!(s == ([] : Str))) = true then
   (F39 s ([10] : Str) >>= fun r_3 =>
    (if ((ls out).length + (ls (some ([({ Text := r_3.1, Whole := r_3.2.2 } : T25)] : List T25))).length) * 24 ≤ 140737488355328 then
     (G14 (.p1 r_3.2.1 (sapp out (ls (some ([({ Text := r_3.1, Whole := r_3.2.2 } : T25)] : List T25))))))
    else none))
  else
   (some out))
 partial_fixpoint
def M14 (x : St14) (r : Sl T25) : Prop := match x with
 | .p1 s out => ∀ (K : AV → Store → Prop) (Ls : List Asn), (∀ st id, SH st (ownA id r :: Ls) → K (ownV 2 v25 r id) st) → ∀ (tm : Fr) (st : Store) (io0 : Nat), Frm tm [(0, AV.str s), (3, ownV 2 v25 out io0)] → SH st (ownA io0 out :: Ls) → W (X14 K) [.lp C14_8, .blk 0, .code C14_20] tm st
theorem w14 : ∀ (x : St14) (r : Sl T25), G14 x = some r → M14 x r := by
 refine G14.partial_correctness M14 ?_
 intro g ih x r hF
 cases x with
 | p1 s out =>
  dsimp only at hF
  intro K Ls hK tm st io0 hf hs
  refine en hf ?_
  refine lp ?_
  refine rn 2 rfl ?_
  refine ci hF rfl (fun c_2 hF => ?_) (fun c_2 hF => ?_)
  · obtain ⟨r_3, g_4, hF⟩ := bind_some hF
    refine rn 1 rfl ?_
    refine df (d39 s ([10] : Str) _ g_4) rfl ?_
    refine rn 10 rfl ?_
    refine W.o (bR (cs := c25 ({ Text := r_3.1, Whole := r_3.2.2 } : T25)) rfl rfl) ?_
    refine bs (f := v25) ([({ Text := r_3.1, Whole := r_3.2.2 } : T25)] : List T25) hs rfl rfl rfl rfl fun st b_5 hs => ?_
    obtain ⟨g_6, hF⟩ := grd_some hF
    refine ap (ys := ls (some ([({ Text := r_3.1, Whole := r_3.2.2 } : T25)] : List T25))) hs 1 rfl rfl (ae_rd (rd_W (o := (some ([({ Text := r_3.1, Whole := r_3.2.2 } : T25)] : List T25))) (id := b_5) rfl)) g_6 (fun _ => rfl) fun st b_7 hs => ?_
    refine rn 3 rfl ?_
    exact ih (.p1 r_3.2.1 (sapp out (ls (some ([({ Text := r_3.1, Whole := r_3.2.2 } : T25)] : List T25))))) _ hF K Ls hK _ _ b_7 ⟨rfl, rfl, trivial⟩ (hs.p 2 [1] rfl)
  · refine rn 2 rfl ?_
    cases hF
    exact rK (rlt rl0) (hK _ _ (hs.p 1 [0] rfl)) rfl
noncomputable def F14 (s : Str) : Option (Sl T25) :=
 (G14 (.p1 s none))
theorem d14 (s : Str) (r : Sl T25) (hF : F14 s = some r) : ∀ (K : AV → Store → Prop) (Ls : List Asn) (st : Store), SH st Ls → (∀ st id, SH st (ownA id r :: Ls) → K (ownV 2 v25 r id) st) → XCall Tryd.prog gE 14 [AV.str s] st K := by
 unfold F14 at hF
 intro K Ls st hs hK
 refine bK k14 rfl ?_
 refine rn 2 rfl ?_
 have hs := hs.ownNil T25
 exact w14 (.p1 s none) _ hF K Ls hK _ _ 0 ⟨rfl, rfl, trivial⟩ hs
/-! ### 21: paddock/lines.Count -/
def C21_1 : ACode := .s (.ops [q 2 (.mv (ki 0))]) (.s (.ops [q 3 (.mv 0), qc 4 14 [3], q 5 (.len 4), q 2 (.mv 5)]) .ret)
def R21 : List RA := [(.tmp 2)]
theorem k21 : compF Tryd.prog (muL []) 21 = some ⟨6, C21_1, R21⟩ := by kernel_rfl
noncomputable abbrev X21 (r : Int) : Cx := cD Tryd.prog gE 6 R21 (AV.int .i64 r)
noncomputable def F21 (s : Str) : Option Int :=
 (F14 s >>= fun r_1 =>
  (some ((ls r_1).length : Int)))
theorem d21 (s : Str) (r : Int) (hF : F21 s = some r) : DFun Tryd.prog gE 21 [AV.str s] (AV.int .i64 r) := by
 unfold F21 at hF
 refine bD k21 rfl ?_
 have hs : SH [] [] := SH.nil
 generalize ([] : Store) = st at hs ⊢
 obtain ⟨r_1, g_2, hF⟩ := bind_some hF
 refine rn 2 rfl ?_
 refine df (dfun_own (fun st L K hs hK => d14 s _ g_2 K L st hs hK)) rfl ?_
 refine W.o (e_len (rd_V rfl)) ?_
 refine rn 1 rfl ?_
 cases hF
 exact rD (rlt rl0) rfl
/-! ### 45: paddock/lines.told -/
def C45_20 : ACode := .s (.ops [q 28 (.mv 0), q 29 (.binI .shr 28 (.c (.int .u64 6))), q 30 (.binI .add (ku 48) 29), q 31 (.mv 0), q 32 (.binI .shr 31 (.c (.int .u64 3))), q 33 (.binI .and 32 (ku 7)), q 34 (.binI .add (ku 48) 33), q 35 (.mv 0), q 36 (.binI .and 35 (ku 7)), q 37 (.binI .add (ku 48) 36), q 38 (.bslice 1 4 false [(.int .u8 0)] [(0, (1, (ku 92))), (1, (1, 30)), (2, (1, 34)), (3, (1, 37))] false), q 39 (.b2s 38), q 2 (.mv 39)]) .ret
def C45_17 : ACode := .s (.ops [q 22 (.mv 0), q 23 (.binI .lss 22 (ku 32)), q 24 (.mv 23), (q 25 (.mv 0)).n 24, (q 26 (.binI .geq 25 (ku 127))).n 24, q 27 (.pick 24 (.c (.bool true)) 26), q 21 (.mv 27)]) (.cond 21 C45_20 .skip)
def C45_24 : ACode := .s (.ops [q 40 (.mv 0), q 41 (.bslice 1 1 false [(.int .u8 0)] [(0, (1, 40))] false), q 42 (.b2s 41), q 2 (.mv 42)]) .ret
def C45_1 : ACode := .s (.ops [q 2 (.mv (.c (.str [])))]) (.s (.block 0 (.s (.ops [q 4 (.mv 0), q 5 (.binI .eql 4 (ku 92)), q 3 (.mv 5)]) (.cond 3 (.s (.ops [q 2 (.mv (.c (.str [92, 92])))]) .ret) (.s (.ops [q 7 (.mv 0), q 8 (.cvI .i64 7), q 9 (.binI .lss 8 (ki 14)), q 10 (.mv 9), (q 11 (.mv 0)).y 10, (q 12 (.iaddrA 14 1 (.c (.gptr 1 0)) 11)).y 10, (q 13 (.load1 12)).y 10, (q 14 (.binI .neq 13 (ku 0))).y 10, q 15 (.pick 10 14 (.c (.bool false))), q 6 (.mv 15)]) (.cond 6 (.s (.ops [q 16 (.mv 0), q 17 (.iaddrA 14 1 (.c (.gptr 1 0)) 16), q 18 (.load1 17), q 19 (.bslice 1 2 false [(.int .u8 0)] [(0, (1, (ku 92))), (1, (1, 18))] false), q 20 (.b2s 19), q 2 (.mv 20)]) .ret) C45_17))))) C45_24)
def R45 : List RA := [(.tmp 2)]
theorem k45 : compF Tryd.prog (muL []) 45 = some ⟨43, C45_1, R45⟩ := by kernel_rfl
noncomputable abbrev X45 (r : Str) : Cx := cD Tryd.prog gE 43 R45 (AV.str r)
inductive St45 where
 | p1 (c : Int)
 | p2 (c : Int)
noncomputable def G45 : St45 → Option Str
 | .p1 c =>
  (if (decide (c < 32)) = true then
   (G45 (.p2 c))
  else
   (if (decide (c ≥ 127)) = true then
    (G45 (.p2 c))
   else
    (some (toBs (ls (some ([c] : List Int)))))))
 | .p2 c =>
  (some (toBs (ls (some ([92, IntKind.wrap .u8 (48 + (shrI .u8 c 6)), IntKind.wrap .u8 (48 + (andI .u8 (shrI .u8 c 3) 7)), IntKind.wrap .u8 (48 + (andI .u8 c 7))] : List Int)))))
 partial_fixpoint
def M45 (x : St45) (r : Str) : Prop := match x with
 | .p1 c => ∀ (tm : Fr) (st : Store), Frm tm [(0, AV.int .u8 c)] → SH st [] → W (X45 r) [.code C45_17, .blk 0, .code C45_24] tm st
 | .p2 c => ∀ (tm : Fr) (st : Store), Frm tm [(0, AV.int .u8 c)] → SH st [] → W (X45 r) [.code C45_20, .blk 0, .code C45_24] tm st
theorem w45 : ∀ (x : St45) (r : Str), G45 x = some r → M45 x r := by
 refine G45.partial_correctness M45 ?_
 intro g ih x r hF
 cases x with
 | p1 c =>
  dsimp only at hF
  intro tm st hf hs
  refine en hf ?_
  refine rn 3 rfl ?_
  refine bi hF (fun c_11 hF => ?_) (fun c_11 hF => ?_)
  · refine wfx 24 rfl c_11 ?_
    refine rn 4 rfl ?_
    refine ct rfl rfl ?_
    exact ih (.p2 c) _ hF _ _ ⟨rfl, trivial⟩ hs
  · refine wfx 24 rfl c_11 ?_
    refine rn 4 rfl ?_
    refine ci hF rfl (fun c_12 hF => ?_) (fun c_12 hF => ?_)
    · exact ih (.p2 c) _ hF _ _ ⟨rfl, trivial⟩ hs
    · refine rn 1 rfl ?_
      refine bs (f := AV.int .u8) ([c] : List Int) hs rfl rfl rfl rfl fun st b_13 hs => ?_
      refine W.o (e_b2s (rd_W (o := (some ([c] : List Int))) (id := b_13) rfl)) ?_
      refine rn 1 rfl ?_
      cases hF
      exact rD (rlt rl0) rfl
 | p2 c =>
  dsimp only at hF
  intro tm st hf hs
  refine en hf ?_
  refine rn 1 rfl ?_
  refine W.o (e_bin rfl rfl (op_shr _ _ _ _ (by decide))) ?_
  refine rn 2 rfl ?_
  refine W.o (e_bin rfl rfl (op_shr _ _ _ _ (by decide))) ?_
  refine rn 5 rfl ?_
  refine bs (f := AV.int .u8) ([92, IntKind.wrap .u8 (48 + (shrI .u8 c 6)), IntKind.wrap .u8 (48 + (andI .u8 (shrI .u8 c 3) 7)), IntKind.wrap .u8 (48 + (andI .u8 c 7))] : List Int) hs rfl rfl rfl rfl fun st b_14 hs => ?_
  refine W.o (e_b2s (rd_W (o := (some ([92, IntKind.wrap .u8 (48 + (shrI .u8 c 6)), IntKind.wrap .u8 (48 + (andI .u8 (shrI .u8 c 3) 7)), IntKind.wrap .u8 (48 + (andI .u8 c 7))] : List Int))) (id := b_14) rfl)) ?_
  refine rn 1 rfl ?_
  cases hF
  exact rD (rlt rl0) rfl
noncomputable def F45 (c : Int) : Option Str :=
 (if (c == 92) = true then
  (some ([92, 92] : Str))
 else
  (if (decide ((IntKind.wrap .i64 c) < 14)) = true then
   (if (0 : Int) ≤ c ∧ c < (14 : Int) then
    (ix g1.l c >>= fun v_4 =>
     (if (v_4 != 0) = true then
      (if (0 : Int) ≤ c ∧ c < (14 : Int) then
       (ix g1.l c >>= fun v_8 =>
        (some (toBs (ls (some ([92, v_8] : List Int))))))
      else none)
     else
      (G45 (.p1 c))))
   else none)
  else
   (G45 (.p1 c))))
theorem d45 (c : Int) (r : Str) (hF : F45 c = some r) : DFun Tryd.prog gE 45 [AV.int .u8 c] (AV.str r) := by
 unfold F45 at hF
 refine bD k45 rfl ?_
 have hs : SH [] [] := SH.nil
 generalize ([] : Store) = st at hs ⊢
 refine rn 4 rfl ?_
 refine ci hF rfl (fun c_1 hF => ?_) (fun c_1 hF => ?_)
 · refine rn 1 rfl ?_
   cases hF
   exact rD (rlt rl0) rfl
 · refine rn 4 rfl ?_
   refine bi hF (fun c_2 hF => ?_) (fun c_2 hF => ?_)
   · refine wfx 10 rfl c_2 ?_
     obtain ⟨g_3, hF⟩ := grd_some hF
     refine rn 1 rfl ?_
     refine W.on rfl rfl ?_
     refine W.o (e_iaddrAG rfl rfl g_3) ?_
     obtain ⟨v_4, g_5, hF⟩ := bind_some hF
     refine W.on rfl rfl ?_
     refine W.o (e_load1G rfl (rfl : gE 1 = some (c87 g1)) (LR.comp (LR.whole _ _) (lrF_get (cI_len .u8) g_5))) ?_
     refine rn 3 rfl ?_
     refine ci hF rfl (fun c_6 hF => ?_) (fun c_6 hF => ?_)
     · obtain ⟨g_7, hF⟩ := grd_some hF
       refine rn 1 rfl ?_
       refine W.o (e_iaddrAG rfl rfl g_7) ?_
       obtain ⟨v_8, g_9, hF⟩ := bind_some hF
       refine W.o (e_load1G rfl (rfl : gE 1 = some (c87 g1)) (LR.comp (LR.whole _ _) (lrF_get (cI_len .u8) g_9))) ?_
       refine bs (f := AV.int .u8) ([92, v_8] : List Int) hs rfl rfl rfl rfl fun st b_10 hs => ?_
       refine W.o (e_b2s (rd_W (o := (some ([92, v_8] : List Int))) (id := b_10) rfl)) ?_
       refine rn 1 rfl ?_
       cases hF
       exact rD (rlt rl0) rfl
     · exact w45 (.p1 c) _ hF _ _ ⟨rfl, trivial⟩ hs
   · refine wfx 10 rfl c_2 ?_
     refine rn 6 rfl ?_
     refine cf rfl rfl ?_
     exact w45 (.p1 c) _ hF _ _ ⟨rfl, trivial⟩ hs
/-! ### 56: paddock/lines.goes -/
def C56_8 : ACode := .s (.s (.ops [q 10 (.mv 1), q 11 (.binI .lss 10 (ki 2))]) (.cond 11 .skip (.exit 0))) (.s (.block 1 (.ops [q 14 (.mv 5), q 15 (.binI .mul (ki 8) 14), q 16 (.mv 6), q 17 (.binI .mul (ki 8) 16), q 18 (.binI .add 17 (ki 7)), q 5 (.mv 15), q 6 (.mv 18)])) (.ops [q 12 (.mv 1), q 13 (.binI .add 12 (ki 1)), q 1 (.mv 13)]))
def C56_33 : ACode := .cond 33 (.s (.ops [q 4 (.mv (.c (.bool true)))]) .ret) .skip
def C56_23 : ACode := .s (.s (.ops [q 20 (.mv 7), q 21 (.mv 6), q 22 (.binI .leq 20 21), q 23 (.mv 22), (q 24 (.mv 7)).y 23, (q 25 (.binI .lss 24 (ki 256))).y 23, q 26 (.pick 23 25 (.c (.bool false)))]) (.cond 26 .skip (.exit 2))) (.s (.block 3 (.s (.ops [q 29 (.mv 7), q 30 (.cvI .u8 29), qc 31 45 [30], q 32 (.lenS 31), q 33 (.binI .eql 32 (ki 4))]) C56_33)) (.ops [q 27 (.mv 7), q 28 (.binI .add 27 (ki 1)), q 7 (.mv 28)]))
def C56_39 : ACode := .s (.ops [q 4 (.mv (.c (.bool false)))]) .ret
def C56_18 : ACode := .s (.s (.ops [q 19 (.mv 5), q 7 (.mv 19)]) (.block 2 (.loop C56_23))) C56_39
def C56_1 : ACode := .s (.ops [q 4 (.mv (.c (.bool false)))]) (.s (.ops [q 8 (.mv 0), q 9 (.mv 0), q 5 (.mv 8), q 6 (.mv 9)]) (.s (.block 0 (.loop C56_8)) C56_18))
def R56 : List RA := [(.tmp 4)]
theorem k56 : compF Tryd.prog (muL []) 56 = some ⟨34, C56_1, R56⟩ := by kernel_rfl
noncomputable abbrev X56 (r : Bool) : Cx := cD Tryd.prog gE 34 R56 (AV.bool r)
inductive St56 where
 | p1 (k : Int) (low : Int) (high : Int)
 | p2 (high : Int) (c : Int)
noncomputable def G56 : St56 → Option Bool
 | .p1 k low high =>
  (if (decide (k < 2)) = true then
   (G56 (.p1 (IntKind.wrap .i64 (k + 1)) (IntKind.wrap .i64 (8 * low)) (IntKind.wrap .i64 ((IntKind.wrap .i64 (8 * high)) + 7))))
  else
   (G56 (.p2 high low)))
 | .p2 high c =>
  (if (decide (c ≤ high)) = true then
   (if (decide (c < 256)) = true then
    (F45 (IntKind.wrap .u8 c) >>= fun r_4 =>
     (if (((r_4).length : Int) == 4) = true then
      (some true)
     else
      (G56 (.p2 high (IntKind.wrap .i64 (c + 1))))))
   else
    (some false))
  else
   (some false))
 partial_fixpoint
def M56 (x : St56) (r : Bool) : Prop := match x with
 | .p1 k low high => ∀ (tm : Fr) (st : Store), Frm tm [(1, AV.int .i64 k), (5, AV.int .i64 low), (6, AV.int .i64 high)] → SH st [] → W (X56 r) [.lp C56_8, .blk 0, .code C56_18] tm st
 | .p2 high c => ∀ (tm : Fr) (st : Store), Frm tm [(6, AV.int .i64 high), (7, AV.int .i64 c)] → SH st [] → W (X56 r) [.lp C56_23, .blk 2, .code C56_39] tm st
theorem w56 : ∀ (x : St56) (r : Bool), G56 x = some r → M56 x r := by
 refine G56.partial_correctness M56 ?_
 intro g ih x r hF
 cases x with
 | p1 k low high =>
  dsimp only at hF
  intro tm st hf hs
  refine en hf ?_
  refine lp ?_
  refine rn 2 rfl ?_
  refine ci hF rfl (fun c_1 hF => ?_) (fun c_1 hF => ?_)
  · refine rn 10 rfl ?_
    exact ih (.p1 (IntKind.wrap .i64 (k + 1)) (IntKind.wrap .i64 (8 * low)) (IntKind.wrap .i64 ((IntKind.wrap .i64 (8 * high)) + 7))) _ hF _ _ ⟨rfl, rfl, rfl, trivial⟩ hs
  · refine rn 2 rfl ?_
    exact ih (.p2 high low) _ hF _ _ ⟨rfl, rfl, trivial⟩ hs
 | p2 high c =>
  dsimp only at hF
  intro tm st hf hs
  refine en hf ?_
  refine lp ?_
  refine rn 4 rfl ?_
  refine bi hF (fun c_2 hF => ?_) (fun c_2 hF => ?_)
  · refine wfx 23 rfl c_2 ?_
    refine rn 3 rfl ?_
    refine ci hF rfl (fun c_3 hF => ?_) (fun c_3 hF => ?_)
    · obtain ⟨r_4, g_5, hF⟩ := bind_some hF
      refine rn 2 rfl ?_
      refine df (d45 (IntKind.wrap .u8 c) _ g_5) rfl ?_
      refine rn 2 rfl ?_
      refine ci hF rfl (fun c_6 hF => ?_) (fun c_6 hF => ?_)
      · refine rn 1 rfl ?_
        cases hF
        exact rD (rlt rl0) rfl
      · refine rn 3 rfl ?_
        exact ih (.p2 high (IntKind.wrap .i64 (c + 1))) _ hF _ _ ⟨rfl, rfl, trivial⟩ hs
    · refine rn 1 rfl ?_
      cases hF
      exact rD (rlt rl0) rfl
  · refine wfx 23 rfl c_2 ?_
    refine rn 3 rfl ?_
    refine cf rfl rfl ?_
    refine rn 1 rfl ?_
    cases hF
    exact rD (rlt rl0) rfl
noncomputable def F56 (n : Int) (k : Int) : Option Bool :=
 (G56 (.p1 k n n))
theorem d56 (n : Int) (k : Int) (r : Bool) (hF : F56 n k = some r) : DFun Tryd.prog gE 56 [AV.int .i64 n, AV.int .i64 k] (AV.bool r) := by
 unfold F56 at hF
 refine bD k56 rfl ?_
 have hs : SH [] [] := SH.nil
 generalize ([] : Store) = st at hs ⊢
 refine rn 5 rfl ?_
 exact w56 (.p1 k n n) _ hF _ _ ⟨rfl, rfl, rfl, trivial⟩ hs
/-! ### 43: paddock/lines.one -/
def C43_13 : ACode := .s (.ops [q 33 (.mv 1), q 34 (.mv 1), q 6 (.mv (ku 0)), q 7 (.mv 33), q 8 (.mv 34)]) .ret
def C43_17 : ACode := .s (.ops [q 35 (.mv 9), q 36 (.mv 1), q 37 (.binI .add 36 (ki 1)), q 6 (.mv 35), q 7 (.mv 37), q 8 (.mv (ki (-1)))]) .ret
def C43_37 : ACode := .s (.ops [q 58 (.mv 9), q 59 (.mv 1), q 60 (.binI .add 59 (ki 1)), q 6 (.mv 58), q 7 (.mv 60), q 8 (.mv (ki (-1)))]) .ret
def C43_46 : ACode := .s (.ops [q 63 (.binI .lss 62 (ki 14))]) (.s (.cond 63 .skip (.exit 0)) (.s (.block 1 (.s (.ops [q 64 (.mv 62), q 65 (.ixA1 14 1 61 62), q 10 (.mv 64), q 11 (.mv 65)]) (.s (.ops [q 66 (.mv 11), q 67 (.binI .neq 66 (ku 0)), q 68 (.mv 67), (q 69 (.mv 11)).y 68, (q 70 (.mv 9)).y 68, (q 71 (.binI .eql 69 70)).y 68, q 72 (.pick 68 71 (.c (.bool false)))]) (.cond 72 (.s (.ops [q 73 (.mv 10), q 74 (.cvI .u8 73), q 75 (.mv 1), q 76 (.binI .add 75 (ki 1)), q 6 (.mv 74), q 7 (.mv 76), q 8 (.mv (ki (-1)))]) .ret) .skip)))) (.ops [q 77 (.binI .add 62 (ki 1)), q 62 (.mv 77)])))
def C43_95 : ACode := .s (.ops [q 106 (.mv 1), q 107 (.mv 13), q 108 (.binI .add 106 107), q 109 (.mv 1), q 110 (.mv 13), q 111 (.binI .add 109 110), q 6 (.mv (ku 0)), q 7 (.mv 108), q 8 (.mv 111)]) .ret
def C43_103 : ACode := .cond 119 (.s (.ops [q 120 (.mv 1), q 121 (.mv 13), q 122 (.binI .add 120 121), q 123 (.mv 1), q 124 (.mv 13), q 125 (.binI .add 123 124), q 6 (.mv (ku 0)), q 7 (.mv 122), q 8 (.mv 125)]) .ret) .skip
def C43_99 : ACode := .s (.ops [q 112 (.mv 12), q 113 (.binI .mul (ki 8) 112), q 114 (.mv 14), q 115 (.binI .add 113 114), q 12 (.mv 115)]) (.s (.ops [q 116 (.mv 12), q 117 (.mv 13), qc 118 56 [116, 117], q 119 (.un .not 118)]) C43_103)
def C43_108 : ACode := .ops [q 126 (.binI .add 78 (ki 1)), q 78 (.mv 126)]
def C43_71 : ACode := .s (.ops [q 79 (.binI .lss 78 (ki 3))]) (.s (.cond 79 .skip (.exit 2)) (.s (.block 3 (.s (.ops [q 80 (.mv 78), q 13 (.mv 80)]) (.s (.s (.ops [q 81 (.mv 1), q 82 (.mv 13), q 83 (.binI .add 81 82), q 84 (.mv 0), q 85 (.lenS 84), q 86 (.binI .eql 83 85)]) (.cond 86 (.s (.ops [q 87 (.mv 1), q 88 (.mv 13), q 89 (.binI .add 87 88), q 90 (.mv 1), q 91 (.mv 13), q 92 (.binI .add 90 91), q 6 (.mv (ku 0)), q 7 (.mv 89), q 8 (.mv 92)]) .ret) .skip)) (.s (.ops [q 93 (.mv 0), q 94 (.mv 1), q 95 (.mv 13), q 96 (.binI .add 94 95), q 97 (.ixS 93 96), q 98 (.cvI .i64 97), q 99 (.binI .sub 98 (ki 48)), q 14 (.mv 99)]) (.s (.s (.ops [q 100 (.mv 14), q 101 (.binI .lss 100 (ki 0)), q 102 (.mv 101), (q 103 (.mv 14)).n 102, (q 104 (.binI .gtr 103 (ki 7))).n 102, q 105 (.pick 102 (.c (.bool true)) 104)]) (.cond 105 C43_95 .skip)) C43_99))))) C43_108))
def C43_109 : ACode := .s (.ops [q 127 (.mv 12), q 128 (.cvI .u8 127), q 129 (.mv 1), q 130 (.binI .add 129 (ki 3)), q 6 (.mv 128), q 7 (.mv 130), q 8 (.mv (ki (-1)))]) .ret
def C43_64 : ACode := .s (.ops [q 12 (.mv (ki 0))]) (.s (.s (.ops [q 78 (.mv (ki 0))]) (.block 2 (.loop C43_71))) C43_109)
def C43_41 : ACode := .s (.s (.ops [q 61 (.loadN 14 (.c (.gptr 1 0))), q 62 (.mv (ki 0))]) (.block 0 (.loop C43_46))) C43_64
def C43_21 : ACode := .s (.ops [q 38 (.mv 1), q 39 (.binI .add 38 (ki 1)), q 1 (.mv 39)]) (.s (.s (.ops [q 40 (.mv 1), q 41 (.mv 0), q 42 (.lenS 41), q 43 (.binI .eql 40 42)]) (.cond 43 (.s (.ops [q 44 (.mv 1), q 45 (.mv 1), q 6 (.mv (ku 0)), q 7 (.mv 44), q 8 (.mv 45)]) .ret) .skip)) (.s (.ops [q 46 (.mv 0), q 47 (.mv 1), q 48 (.ixS 46 47), q 9 (.mv 48)]) (.s (.s (.ops [q 49 (.mv 9), q 50 (.binI .eql 49 (ku 92)), q 51 (.mv 50), (q 52 (.mv 2)).n 51, (q 53 (.mv 52)).n 51, (q 54 (.mv 9)).y 53, (q 55 (.binI .eql 54 (ku 34))).y 53, (q 56 (.pick 53 55 (.c (.bool false)))).n 51, q 57 (.pick 51 (.c (.bool true)) 56)]) (.cond 57 C43_37 .skip)) C43_41)))
def C43_1 : ACode := .s (.ops [q 6 (.mv (ku 0)), q 7 (.mv (ki 0)), q 8 (.mv (ki 0))]) (.s (.ops [q 15 (.mv 0), q 16 (.mv 1), q 17 (.ixS 15 16), q 9 (.mv 17)]) (.s (.s (.ops [q 18 (.mv 9), q 19 (.binI .neq 18 (ku 92))]) (.cond 19 (.s (.s (.ops [q 20 (.mv 9), q 21 (.binI .lss 20 (ku 32)), q 22 (.mv 21), (q 23 (.mv 9)).n 22, (q 24 (.binI .geq 23 (ku 127))).n 22, q 25 (.pick 22 (.c (.bool true)) 24), q 26 (.mv 25), (q 27 (.mv 2)).n 26, (q 28 (.mv 27)).n 26, (q 29 (.mv 9)).y 28, (q 30 (.binI .eql 29 (ku 34))).y 28, (q 31 (.pick 28 30 (.c (.bool false)))).n 26, q 32 (.pick 26 (.c (.bool true)) 31)]) (.cond 32 C43_13 .skip)) C43_17) .skip)) C43_21))
def R43 : List RA := [(.tmp 6), (.tmp 7), (.tmp 8)]
theorem k43 : compF Tryd.prog (muL []) 43 = some ⟨131, C43_1, R43⟩ := by kernel_rfl
noncomputable abbrev X43 (r : Int × Int × Int) : Cx := cD Tryd.prog gE 131 R43 (AV.tup [AV.int .u8 r.1, AV.int .i64 r.2.1, AV.int .i64 r.2.2])
inductive St43 where
 | p1 (i : Int)
 | p2 (i : Int) (c : Int)
 | p3 (i : Int) (c : Int)
 | p4 (s : Str) (i : Int) (c : Int)
 | p5 (s : Str) (i : Int) (c : Int) (t61_ : Arr 14 Int) (t62_ : Int)
 | p6 (s : Str) (i : Int) (n : Int) (t78_ : Int)
 | p7 (i : Int) (k : Int)
noncomputable def G43 : St43 → Option (Int × Int × Int)
 | .p1 i =>
  (some (0, i, i))
 | .p2 i c =>
  (some (c, IntKind.wrap .i64 (i + 1), (-1)))
 | .p3 i c =>
  (some (c, IntKind.wrap .i64 (i + 1), (-1)))
 | .p4 s i c =>
  (G43 (.p5 s i c g1 0))
 | .p5 s i c t61_ t62_ =>
  (if (decide (t62_ < 14)) = true then
   (ix t61_.l t62_ >>= fun v_15 =>
    (if (v_15 != 0) = true then
     (if (v_15 == c) = true then
      (some (IntKind.wrap .u8 t62_, IntKind.wrap .i64 (i + 1), (-1)))
     else
      (G43 (.p5 s i c t61_ (IntKind.wrap .i64 (t62_ + 1)))))
    else
     (G43 (.p5 s i c t61_ (IntKind.wrap .i64 (t62_ + 1))))))
  else
   (G43 (.p6 s i 0 0)))
 | .p6 s i n t78_ =>
  (if (decide (t78_ < 3)) = true then
   (if ((IntKind.wrap .i64 (i + t78_)) == ((s).length : Int)) = true then
    (some (0, IntKind.wrap .i64 (i + t78_), IntKind.wrap .i64 (i + t78_)))
   else
    (ix s (IntKind.wrap .i64 (i + t78_)) >>= fun b_21 =>
     (if (decide ((IntKind.wrap .i64 ((IntKind.wrap .i64 (b_21.toNat : Int)) - 48)) < 0)) = true then
      (G43 (.p7 i t78_))
     else
      (if (decide ((IntKind.wrap .i64 ((IntKind.wrap .i64 (b_21.toNat : Int)) - 48)) > 7)) = true then
       (G43 (.p7 i t78_))
      else
       (F56 (IntKind.wrap .i64 ((IntKind.wrap .i64 (8 * n)) + (IntKind.wrap .i64 ((IntKind.wrap .i64 (b_21.toNat : Int)) - 48)))) t78_ >>= fun r_25 =>
        (if (!r_25) = true then
         (some (0, IntKind.wrap .i64 (i + t78_), IntKind.wrap .i64 (i + t78_)))
        else
         (G43 (.p6 s i (IntKind.wrap .i64 ((IntKind.wrap .i64 (8 * n)) + (IntKind.wrap .i64 ((IntKind.wrap .i64 (b_21.toNat : Int)) - 48)))) (IntKind.wrap .i64 (t78_ + 1))))))))))
  else
   (some (IntKind.wrap .u8 n, IntKind.wrap .i64 (i + 3), (-1))))
 | .p7 i k =>
  (some (0, IntKind.wrap .i64 (i + k), IntKind.wrap .i64 (i + k)))
 partial_fixpoint
def M43 (x : St43) (r : Int × Int × Int) : Prop := match x with
 | .p1 i => ∀ (tm : Fr) (st : Store), Frm tm [(1, AV.int .i64 i)] → SH st [] → W (X43 r) [.code C43_13, .code C43_17, .code C43_21] tm st
 | .p2 i c => ∀ (tm : Fr) (st : Store), Frm tm [(1, AV.int .i64 i), (9, AV.int .u8 c)] → SH st [] → W (X43 r) [.code C43_17, .code C43_21] tm st
 | .p3 i c => ∀ (tm : Fr) (st : Store), Frm tm [(1, AV.int .i64 i), (9, AV.int .u8 c)] → SH st [] → W (X43 r) [.code C43_37, .code C43_41] tm st
 | .p4 s i c => ∀ (tm : Fr) (st : Store), Frm tm [(0, AV.str s), (1, AV.int .i64 i), (9, AV.int .u8 c)] → SH st [] → W (X43 r) [.code C43_41] tm st
 | .p5 s i c t61_ t62_ => ∀ (tm : Fr) (st : Store), Frm tm [(0, AV.str s), (1, AV.int .i64 i), (9, AV.int .u8 c), (61, v87 t61_), (62, AV.int .i64 t62_)] → SH st [] → W (X43 r) [.lp C43_46, .blk 0, .code C43_64] tm st
 | .p6 s i n t78_ => ∀ (tm : Fr) (st : Store), Frm tm [(0, AV.str s), (1, AV.int .i64 i), (12, AV.int .i64 n), (78, AV.int .i64 t78_)] → SH st [] → W (X43 r) [.lp C43_71, .blk 2, .code C43_109] tm st
 | .p7 i k => ∀ (tm : Fr) (st : Store), Frm tm [(1, AV.int .i64 i), (13, AV.int .i64 k)] → SH st [] → W (X43 r) [.code C43_95, .code C43_99, .blk 3, .code C43_108, .lp C43_71, .blk 2, .code C43_109] tm st
theorem w43 : ∀ (x : St43) (r : Int × Int × Int), G43 x = some r → M43 x r := by
 refine G43.partial_correctness M43 ?_
 intro g ih x r hF
 cases x with
 | p1 i =>
  dsimp only at hF
  intro tm st hf hs
  refine en hf ?_
  refine rn 5 rfl ?_
  cases hF
  exact rD (rlt (rlt (rlt rl0))) rfl
 | p2 i c =>
  dsimp only at hF
  intro tm st hf hs
  refine en hf ?_
  refine rn 6 rfl ?_
  cases hF
  exact rD (rlt (rlt (rlt rl0))) rfl
 | p3 i c =>
  dsimp only at hF
  intro tm st hf hs
  refine en hf ?_
  refine rn 6 rfl ?_
  cases hF
  exact rD (rlt (rlt (rlt rl0))) rfl
 | p4 s i c =>
  dsimp only at hF
  intro tm st hf hs
  refine en hf ?_
  refine rn 0 rfl ?_
  refine W.o (e_loadNG rfl (rfl : gE 1 = some (c87 g1)) (LR.whole _ _) (c87_len _)) ?_
  refine rn 1 rfl ?_
  exact ih (.p5 s i c g1 0) _ hF _ _ ⟨rfl, rfl, rfl, rfl, rfl, trivial⟩ hs
 | p5 s i c t61_ t62_ =>
  dsimp only at hF
  intro tm st hf hs
  refine en hf ?_
  refine lp ?_
  refine rn 1 rfl ?_
  refine ci hF rfl (fun c_14 hF => ?_) (fun c_14 hF => ?_)
  · obtain ⟨v_15, g_16, hF⟩ := bind_some hF
    refine rn 1 rfl ?_
    refine W.o (e_ixA1 rfl rfl (ix_lt g_16) (lrF_get (cI_len .u8) g_16)) ?_
    refine rn 5 rfl ?_
    refine bi hF (fun c_17 hF => ?_) (fun c_17 hF => ?_)
    · refine wfx 68 rfl c_17 ?_
      refine rn 4 rfl ?_
      refine ci hF rfl (fun c_18 hF => ?_) (fun c_18 hF => ?_)
      · refine rn 7 rfl ?_
        cases hF
        exact rD (rlt (rlt (rlt rl0))) rfl
      · refine rn 2 rfl ?_
        exact ih (.p5 s i c t61_ (IntKind.wrap .i64 (t62_ + 1))) _ hF _ _ ⟨rfl, rfl, rfl, rfl, rfl, trivial⟩ hs
    · refine wfx 68 rfl c_17 ?_
      refine rn 4 rfl ?_
      refine cf rfl rfl ?_
      refine rn 2 rfl ?_
      exact ih (.p5 s i c t61_ (IntKind.wrap .i64 (t62_ + 1))) _ hF _ _ ⟨rfl, rfl, rfl, rfl, rfl, trivial⟩ hs
  · refine rn 2 rfl ?_
    exact ih (.p6 s i 0 0) _ hF _ _ ⟨rfl, rfl, rfl, rfl, trivial⟩ hs
 | p6 s i n t78_ =>
  dsimp only at hF
  intro tm st hf hs
  refine en hf ?_
  refine lp ?_
  refine rn 1 rfl ?_
  refine ci hF rfl (fun c_19 hF => ?_) (fun c_19 hF => ?_)
  · refine rn 8 rfl ?_
    refine ci hF rfl (fun c_20 hF => ?_) (fun c_20 hF => ?_)
    · refine rn 9 rfl ?_
      cases hF
      exact rD (rlt (rlt (rlt rl0))) rfl
    · obtain ⟨b_21, g_22, hF⟩ := bind_some hF
      refine rn 4 rfl ?_
      refine W.o (e_ixS rfl rfl g_22) ?_
      refine rn 6 rfl ?_
      refine bi hF (fun c_23 hF => ?_) (fun c_23 hF => ?_)
      · refine wfx 102 rfl c_23 ?_
        refine rn 3 rfl ?_
        refine ct rfl rfl ?_
        exact ih (.p7 i t78_) _ hF _ _ ⟨rfl, rfl, trivial⟩ hs
      · refine wfx 102 rfl c_23 ?_
        refine rn 3 rfl ?_
        refine ci hF rfl (fun c_24 hF => ?_) (fun c_24 hF => ?_)
        · exact ih (.p7 i t78_) _ hF _ _ ⟨rfl, rfl, trivial⟩ hs
        · obtain ⟨r_25, g_26, hF⟩ := bind_some hF
          refine rn 7 rfl ?_
          refine df (d56 (IntKind.wrap .i64 ((IntKind.wrap .i64 (8 * n)) + (IntKind.wrap .i64 ((IntKind.wrap .i64 (b_21.toNat : Int)) - 48)))) t78_ _ g_26) rfl ?_
          refine rn 1 rfl ?_
          refine ci hF rfl (fun c_27 hF => ?_) (fun c_27 hF => ?_)
          · refine rn 9 rfl ?_
            cases hF
            exact rD (rlt (rlt (rlt rl0))) rfl
          · refine rn 2 rfl ?_
            exact ih (.p6 s i (IntKind.wrap .i64 ((IntKind.wrap .i64 (8 * n)) + (IntKind.wrap .i64 ((IntKind.wrap .i64 (b_21.toNat : Int)) - 48)))) (IntKind.wrap .i64 (t78_ + 1))) _ hF _ _ ⟨rfl, rfl, rfl, rfl, trivial⟩ hs
  · refine rn 7 rfl ?_
    cases hF
    exact rD (rlt (rlt (rlt rl0))) rfl
 | p7 i k =>
  dsimp only at hF
  intro tm st hf hs
  refine en hf ?_
  refine rn 9 rfl ?_
  cases hF
  exact rD (rlt (rlt (rlt rl0))) rfl
noncomputable def F43 (s : Str) (i : Int) (quoted : Bool) : Option (Int × Int × Int) :=
 (ix s i >>= fun b_1 =>
  (if ((b_1.toNat : Int) != 92) = true then
   (if (decide ((b_1.toNat : Int) < 32)) = true then
    (G43 (.p1 i))
   else
    (if (decide ((b_1.toNat : Int) ≥ 127)) = true then
     (G43 (.p1 i))
    else
     (if quoted = true then
      (if ((b_1.toNat : Int) == 34) = true then
       (G43 (.p1 i))
      else
       (G43 (.p2 i (b_1.toNat : Int))))
     else
      (G43 (.p2 i (b_1.toNat : Int))))))
  else
   (if ((IntKind.wrap .i64 (i + 1)) == ((s).length : Int)) = true then
    (some (0, IntKind.wrap .i64 (i + 1), IntKind.wrap .i64 (i + 1)))
   else
    (ix s (IntKind.wrap .i64 (i + 1)) >>= fun b_9 =>
     (if ((b_9.toNat : Int) == 92) = true then
      (G43 (.p3 (IntKind.wrap .i64 (i + 1)) (b_9.toNat : Int)))
     else
      (if quoted = true then
       (if ((b_9.toNat : Int) == 34) = true then
        (G43 (.p3 (IntKind.wrap .i64 (i + 1)) (b_9.toNat : Int)))
       else
        (G43 (.p4 s (IntKind.wrap .i64 (i + 1)) (b_9.toNat : Int))))
      else
       (G43 (.p4 s (IntKind.wrap .i64 (i + 1)) (b_9.toNat : Int)))))))))
theorem d43 (s : Str) (i : Int) (quoted : Bool) (r : Int × Int × Int) (hF : F43 s i quoted = some r) : DFun Tryd.prog gE 43 [AV.str s, AV.int .i64 i, AV.bool quoted] (AV.tup [AV.int .u8 r.1, AV.int .i64 r.2.1, AV.int .i64 r.2.2]) := by
 unfold F43 at hF
 refine bD k43 rfl ?_
 have hs : SH [] [] := SH.nil
 generalize ([] : Store) = st at hs ⊢
 obtain ⟨b_1, g_2, hF⟩ := bind_some hF
 refine rn 5 rfl ?_
 refine W.o (e_ixS rfl rfl g_2) ?_
 refine rn 3 rfl ?_
 refine ci hF rfl (fun c_3 hF => ?_) (fun c_3 hF => ?_)
 · refine rn 3 rfl ?_
   refine bi hF (fun c_4 hF => ?_) (fun c_4 hF => ?_)
   · refine wfx 22 rfl c_4 ?_
     refine rn 10 rfl ?_
     refine ct rfl rfl ?_
     exact w43 (.p1 i) _ hF _ _ ⟨rfl, trivial⟩ hs
   · refine wfx 22 rfl c_4 ?_
     refine rn 4 rfl ?_
     refine bi hF (fun c_5 hF => ?_) (fun c_5 hF => ?_)
     · refine wfx 26 rfl c_5 ?_
       refine rn 6 rfl ?_
       refine ct rfl rfl ?_
       exact w43 (.p1 i) _ hF _ _ ⟨rfl, trivial⟩ hs
     · refine wfx 26 rfl c_5 ?_
       refine rn 2 rfl ?_
       refine bi hF (fun c_6 hF => ?_) (fun c_6 hF => ?_)
       · refine wfx 28 rfl c_6 ?_
         refine rn 4 rfl ?_
         refine ci hF rfl (fun c_7 hF => ?_) (fun c_7 hF => ?_)
         · exact w43 (.p1 i) _ hF _ _ ⟨rfl, trivial⟩ hs
         · refine rj 0 1 rfl ?_
           exact w43 (.p2 i (b_1.toNat : Int)) _ hF _ _ ⟨rfl, rfl, trivial⟩ hs
       · refine wfx 28 rfl c_6 ?_
         refine rn 4 rfl ?_
         refine cf rfl rfl ?_
         refine rj 0 1 rfl ?_
         exact w43 (.p2 i (b_1.toNat : Int)) _ hF _ _ ⟨rfl, rfl, trivial⟩ hs
 · refine rn 7 rfl ?_
   refine ci hF rfl (fun c_8 hF => ?_) (fun c_8 hF => ?_)
   · refine rn 5 rfl ?_
     cases hF
     exact rD (rlt (rlt (rlt rl0))) rfl
   · obtain ⟨b_9, g_10, hF⟩ := bind_some hF
     refine rn 2 rfl ?_
     refine W.o (e_ixS rfl rfl g_10) ?_
     refine rn 4 rfl ?_
     refine bi hF (fun c_11 hF => ?_) (fun c_11 hF => ?_)
     · refine wfx 51 rfl c_11 ?_
       refine rn 6 rfl ?_
       refine ct rfl rfl ?_
       exact w43 (.p3 (IntKind.wrap .i64 (i + 1)) (b_9.toNat : Int)) _ hF _ _ ⟨rfl, rfl, trivial⟩ hs
     · refine wfx 51 rfl c_11 ?_
       refine rn 2 rfl ?_
       refine bi hF (fun c_12 hF => ?_) (fun c_12 hF => ?_)
       · refine wfx 53 rfl c_12 ?_
         refine rn 4 rfl ?_
         refine ci hF rfl (fun c_13 hF => ?_) (fun c_13 hF => ?_)
         · exact w43 (.p3 (IntKind.wrap .i64 (i + 1)) (b_9.toNat : Int)) _ hF _ _ ⟨rfl, rfl, trivial⟩ hs
         · refine rj 0 1 rfl ?_
           exact w43 (.p4 s (IntKind.wrap .i64 (i + 1)) (b_9.toNat : Int)) _ hF _ _ ⟨rfl, rfl, rfl, trivial⟩ hs
       · refine wfx 53 rfl c_12 ?_
         refine rn 4 rfl ?_
         refine cf rfl rfl ?_
         refine rj 0 1 rfl ?_
         exact w43 (.p4 s (IntKind.wrap .i64 (i + 1)) (b_9.toNat : Int)) _ hF _ _ ⟨rfl, rfl, rfl, trivial⟩ hs
/-! ### 22: paddock/lines.Unquote -/
def C22_7 : ACode := .s (.ops [q 2 (.mv (.c (.str []))), q 3 (.mv (ki 0)), q 4 (.mv (ki 10)), q 5 (.mv (ki 0))]) .ret
def C22_28 : ACode := .cond 25 (.s (.ops [q 26 (.mv 6), q 27 (.b2s 26), q 28 (.mv 7), q 29 (.binI .add 28 (ki 1)), q 2 (.mv 27), q 3 (.mv 29), q 4 (.mv (ki 0)), q 5 (.mv (ki 0))]) .ret) .skip
def C22_35 : ACode := .s (.s (.ops [q 37 (.mv 10), q 38 (.binI .geq 37 (ki 0))]) (.cond 38 (.s (.ops [q 39 (.mv 10), q 2 (.mv (.c (.str []))), q 3 (.mv (ki 0)), q 4 (.mv (ki 10)), q 5 (.mv 39)]) .ret) .skip)) (.s (.ops [q 40 (.mv 6), q 41 (.mv 8), q 42 (.bslice 1 1 false [(.int .u8 0)] [(0, (1, 41))] false), q 43 (.app 1 1 40 42), q 6 (.mv 43)]) (.ops [q 44 (.mv 9), q 7 (.mv 44)]))
def C22_18 : ACode := .s (.s (.ops [q 18 (.mv 7), q 19 (.mv 0), q 20 (.lenS 19), q 21 (.binI .lss 18 20)]) (.cond 21 .skip (.exit 0))) (.block 1 (.s (.s (.ops [q 22 (.mv 0), q 23 (.mv 7), q 24 (.ixS 22 23), q 25 (.binI .eql 24 (ku 34))]) C22_28) (.s (.ops [q 31 (.mv 0), q 32 (.mv 7), qc 33 43 [31, 32, (.c (.bool true))], q 30 (.mv 33), q 34 (.extract 30 0), q 35 (.extract 30 1), q 36 (.extract 30 2), q 8 (.mv 34), q 9 (.mv 35), q 10 (.mv 36)]) C22_35)))
def C22_46 : ACode := .s (.ops [q 45 (.mv 0), q 46 (.lenS 45), q 2 (.mv (.c (.str []))), q 3 (.mv (ki 0)), q 4 (.mv (ki 10)), q 5 (.mv 46)]) .ret
def C22_11 : ACode := .s (.ops [q 6 (.mv (.c .nils))]) (.s (.s (.ops [q 7 (.mv (ki 1))]) (.block 0 (.loop C22_18))) C22_46)
def C22_1 : ACode := .s (.ops [q 2 (.mv (.c (.str []))), q 3 (.mv (ki 0)), q 4 (.mv (ki 0)), q 5 (.mv (ki 0))]) (.s (.s (.ops [q 11 (.mv 0), q 12 (.binS .eql 11 (.c (.str []))), q 13 (.mv 12), (q 14 (.mv 0)).n 13, (q 15 (.ixS 14 (ki 0))).n 13, (q 16 (.binI .neq 15 (ku 34))).n 13, q 17 (.pick 13 (.c (.bool true)) 16)]) (.cond 17 C22_7 .skip)) C22_11)
def R22 : List RA := [(.tmp 2), (.tmp 3), (.tmp 4), (.tmp 5)]
theorem k22 : compF Tryd.prog (muL []) 22 = some ⟨47, C22_1, R22⟩ := by kernel_rfl
noncomputable abbrev X22 (r : Str × Int × Int × Int) : Cx := cD Tryd.prog gE 47 R22 (AV.tup [AV.str r.1, AV.int .i64 r.2.1, AV.int .i64 r.2.2.1, AV.int .i64 r.2.2.2])
inductive St22 where
 | p1 
 | p2 (s : Str) (i : Int) (out : Sl Int)
noncomputable def G22 : St22 → Option (Str × Int × Int × Int)
 | .p1  =>
  (some (([] : Str), 0, 10, 0))
 | .p2 s i out =>
  (if (decide (i < ((s).length : Int))) = true then
   (ix s i >>= fun b_7 =>
    (if ((b_7.toNat : Int) == 34) = true then
     (some (toBs (ls out), IntKind.wrap .i64 (i + 1), 0, 0))
    else
     (F43 s i true >>= fun r_10 =>
      (if (decide (r_10.2.2 ≥ 0)) = true then
       (some (([] : Str), 0, 10, r_10.2.2))
      else
       (if ((ls out).length + (ls (some ([r_10.1] : List Int))).length) * 1 ≤ 140737488355328 then
        (G22 (.p2 s r_10.2.1 (sapp out (ls (some ([r_10.1] : List Int))))))
       else none)))))
  else
   (some (([] : Str), 0, 10, ((s).length : Int))))
 partial_fixpoint
def M22 (x : St22) (r : Str × Int × Int × Int) : Prop := match x with
 | .p1  => ∀ (tm : Fr) (st : Store), Frm tm [] → SH st [] → W (X22 r) [.code C22_7, .code C22_11] tm st
 | .p2 s i out => ∀ (tm : Fr) (st : Store) (io0 : Nat), Frm tm [(0, AV.str s), (6, ownV 1 (AV.int .u8) out io0), (7, AV.int .i64 i)] → SH st [ownA io0 out] → W (X22 r) [.lp C22_18, .blk 0, .code C22_46] tm st
theorem w22 : ∀ (x : St22) (r : Str × Int × Int × Int), G22 x = some r → M22 x r := by
 refine G22.partial_correctness M22 ?_
 intro g ih x r hF
 cases x with
 | p1  =>
  dsimp only at hF
  intro tm st hf hs
  refine en hf ?_
  refine rn 4 rfl ?_
  cases hF
  exact rD (rlt (rlt (rlt (rlt rl0)))) rfl
 | p2 s i out =>
  dsimp only at hF
  intro tm st io0 hf hs
  refine en hf ?_
  refine lp ?_
  refine rn 4 rfl ?_
  refine ci hF rfl (fun c_6 hF => ?_) (fun c_6 hF => ?_)
  · obtain ⟨b_7, g_8, hF⟩ := bind_some hF
    refine rn 2 rfl ?_
    refine W.o (e_ixS rfl rfl g_8) ?_
    refine rn 1 rfl ?_
    refine ci hF rfl (fun c_9 hF => ?_) (fun c_9 hF => ?_)
    · refine rn 1 rfl ?_
      refine W.o (e_b2s (rd_W (o := out) (id := io0) rfl)) ?_
      refine rn 6 rfl ?_
      cases hF
      exact rD (rlt (rlt (rlt (rlt rl0)))) rfl
    · obtain ⟨r_10, g_11, hF⟩ := bind_some hF
      refine rn 2 rfl ?_
      refine df (d43 s i true _ g_11) rfl ?_
      refine rn 9 rfl ?_
      refine ci hF rfl (fun c_12 hF => ?_) (fun c_12 hF => ?_)
      · refine rn 5 rfl ?_
        cases hF
        exact rD (rlt (rlt (rlt (rlt rl0)))) rfl
      · refine rn 2 rfl ?_
        refine bs (f := AV.int .u8) ([r_10.1] : List Int) hs rfl rfl rfl rfl fun st b_13 hs => ?_
        obtain ⟨g_14, hF⟩ := grd_some hF
        refine ap (ys := ls (some ([r_10.1] : List Int))) hs 1 rfl rfl (ae_rd (rd_W (o := (some ([r_10.1] : List Int))) (id := b_13) rfl)) g_14 (fun _ => rfl) fun st b_15 hs => ?_
        refine rn 3 rfl ?_
        exact ih (.p2 s r_10.2.1 (sapp out (ls (some ([r_10.1] : List Int))))) _ hF _ _ b_15 ⟨rfl, rfl, rfl, trivial⟩ (hs.p 2 [1] rfl)
  · refine rn 6 rfl ?_
    cases hF
    exact rD (rlt (rlt (rlt (rlt rl0)))) rfl
noncomputable def F22 (s : Str) : Option (Str × Int × Int × Int) :=
 (if (s == ([] : Str)) = true then
  (G22 (.p1))
 else
  (ix s 0 >>= fun b_2 =>
   (if ((b_2.toNat : Int) != 34) = true then
    (G22 (.p1))
   else
    (G22 (.p2 s 1 none)))))
theorem d22 (s : Str) (r : Str × Int × Int × Int) (hF : F22 s = some r) : DFun Tryd.prog gE 22 [AV.str s] (AV.tup [AV.str r.1, AV.int .i64 r.2.1, AV.int .i64 r.2.2.1, AV.int .i64 r.2.2.2]) := by
 unfold F22 at hF
 refine bD k22 rfl ?_
 have hs : SH [] [] := SH.nil
 generalize ([] : Store) = st at hs ⊢
 refine rn 7 rfl ?_
 refine bi hF (fun c_1 hF => ?_) (fun c_1 hF => ?_)
 · refine wfx 13 rfl c_1 ?_
   refine rn 4 rfl ?_
   refine ct rfl rfl ?_
   exact w22 (.p1) _ hF _ _ trivial hs
 · refine wfx 13 rfl c_1 ?_
   obtain ⟨b_2, g_3, hF⟩ := bind_some hF
   refine rn 1 rfl ?_
   refine W.on rfl rfl ?_
   refine W.o (e_ixS rfl rfl g_3) ?_
   refine rn 2 rfl ?_
   refine ci hF rfl (fun c_4 hF => ?_) (fun c_4 hF => ?_)
   · exact w22 (.p1) _ hF _ _ trivial hs
   · refine rn 2 rfl ?_
     have hs := hs.ownNil Int
     exact w22 (.p2 s 1 none) _ hF _ _ 0 ⟨rfl, rfl, rfl, trivial⟩ hs
/-! ### 26: paddock/lines.List -/
def C26_40 : ACode := .s (.ops [q 37 (.mv 9), qc 38 40 [6, 37]]) (.ops [q 39 (.mv 7), q 40 (.mv 9), q 41 (.lenS 40), q 42 (.binI .add 39 41), q 7 (.mv 42)])
def C26_43 : ACode := .ops [q 43 (.binI .add 14 (ki 1)), q 14 (.mv 43)]
def C26_20 : ACode := .s (.ops [q 15 (.binI .lss 14 13)]) (.s (.cond 15 .skip (.exit 0)) (.s (.block 1 (.s (.ops [q 16 (.mv 14), q 8 (.mv 16)]) (.s (.ops [q 17 (.mv 0), q 18 (.mv 8), q 19 (.ixS 17 18), qc 20 45 [19], q 9 (.mv 20)]) (.s (.s (.ops [q 21 (.mv 1), q 22 (.binI .gtr 21 (ki 1)), q 23 (.mv 22), (q 24 (.mv 7)).y 23, (q 25 (.binI .gtr 24 (ki 0))).y 23, q 26 (.pick 23 25 (.c (.bool false))), q 27 (.mv 26), (q 28 (.mv 7)).y 27, (q 29 (.mv 9)).y 27, (q 30 (.lenS 29)).y 27, (q 31 (.binI .add 28 30)).y 27, (q 32 (.mv 1)).y 27, (q 33 (.binI .sub 32 (ki 1))).y 27, (q 34 (.binI .gtr 31 33)).y 27, q 35 (.pick 27 34 (.c (.bool false)))]) (.cond 35 (.s (.ops [qc 36 40 [6, (.c (.str [92, 10]))]]) (.ops [q 7 (.mv (ki 0))])) .skip)) C26_40)))) C26_43))
def C26_44 : ACode := .s (.ops [qc 44 40 [6, (.c (.str [36, 10]))]]) (.s (.ops [qc 45 42 [6], q 4 (.mv 45), q 5 (.mv (ki 0))]) .ret)
def C26_1 : ACode := .s (.ops [q 4 (.mv (.c (.str []))), q 5 (.mv (ki 0))]) (.s (.s (.ops [q 10 (.mv 1), q 11 (.binI .lss 10 (ki 0))]) (.cond 11 (.s (.ops [q 4 (.mv (.c (.str []))), q 5 (.mv (ki 2))]) .ret) .skip)) (.s (.ops [q 6 (.allocB 60 2 [.nilptr, .nils])]) (.s (.ops [q 7 (.mv (ki 0))]) (.s (.s (.ops [q 12 (.mv 0), q 13 (.lenS 12), q 14 (.mv (ki 0))]) (.block 0 (.loop C26_20))) C26_44))))
def R26 : List RA := [(.tmp 4), (.tmp 5)]
theorem k26 : compF Tryd.prog (muL []) 26 = some ⟨46, C26_1, R26⟩ := by kernel_rfl
noncomputable abbrev X26 (r : Str × Int) : Cx := cD Tryd.prog gE 46 R26 (AV.tup [AV.str r.1, AV.int .i64 r.2])
inductive St26 where
 | p1 (s : Str) (width : Int) (row : Int) (t13_ : Int) (t14_ : Int) (b : Str)
 | p2 (s : Str) (width : Int) (row : Int) (t : Str) (t13_ : Int) (t14_ : Int) (b : Str)
noncomputable def G26 : St26 → Option (Str × Int)
 | .p1 s width row t13_ t14_ b =>
  (if (decide (t14_ < t13_)) = true then
   (ix s t14_ >>= fun b_4 =>
    (F45 (b_4.toNat : Int) >>= fun r_6 =>
     (if (decide (width > 1)) = true then
      (if (decide (row > 0)) = true then
       (if (decide ((IntKind.wrap .i64 (row + ((r_6).length : Int))) > (IntKind.wrap .i64 (width - 1)))) = true then
        (bWS b ([92, 10] : Str) >>= fun r_11 =>
         (G26 (.p2 s width 0 r_6 t13_ t14_ r_11.2.2)))
       else
        (G26 (.p2 s width row r_6 t13_ t14_ b)))
      else
       (G26 (.p2 s width row r_6 t13_ t14_ b)))
     else
      (G26 (.p2 s width row r_6 t13_ t14_ b)))))
  else
   (bWS b ([36, 10] : Str) >>= fun r_13 =>
    (bST r_13.2.2 >>= fun r_15 =>
     (some (r_15, 0)))))
 | .p2 s width row t t13_ t14_ b =>
  (bWS b t >>= fun r_17 =>
   (G26 (.p1 s width (IntKind.wrap .i64 (row + ((t).length : Int))) t13_ (IntKind.wrap .i64 (t14_ + 1)) r_17.2.2)))
 partial_fixpoint
def M26 (x : St26) (r : Str × Int) : Prop := match x with
 | .p1 s width row t13_ t14_ b => ∀ (tm : Fr) (st : Store) (io0 : Nat), Frm tm [(0, AV.str s), (1, AV.int .i64 width), (6, .ptr io0 0), (7, AV.int .i64 row), (13, AV.int .i64 t13_), (14, AV.int .i64 t14_)] → SH st [bldA 60 5 io0 b] → W (X26 r) [.lp C26_20, .blk 0, .code C26_44] tm st
 | .p2 s width row t t13_ t14_ b => ∀ (tm : Fr) (st : Store) (io0 : Nat), Frm tm [(0, AV.str s), (1, AV.int .i64 width), (6, .ptr io0 0), (7, AV.int .i64 row), (9, AV.str t), (13, AV.int .i64 t13_), (14, AV.int .i64 t14_)] → SH st [bldA 60 5 io0 b] → W (X26 r) [.code C26_40, .blk 1, .code C26_43, .lp C26_20, .blk 0, .code C26_44] tm st
theorem w26 : ∀ (x : St26) (r : Str × Int), G26 x = some r → M26 x r := by
 refine G26.partial_correctness M26 ?_
 intro g ih x r hF
 cases x with
 | p1 s width row t13_ t14_ b =>
  dsimp only at hF
  intro tm st io0 hf hs
  refine en hf ?_
  refine lp ?_
  refine rn 1 rfl ?_
  refine ci hF rfl (fun c_3 hF => ?_) (fun c_3 hF => ?_)
  · obtain ⟨b_4, g_5, hF⟩ := bind_some hF
    refine rn 4 rfl ?_
    refine W.o (e_ixS rfl rfl g_5) ?_
    obtain ⟨r_6, g_7, hF⟩ := bind_some hF
    refine df (d45 (b_4.toNat : Int) _ g_7) rfl ?_
    refine rn 4 rfl ?_
    refine bi hF (fun c_8 hF => ?_) (fun c_8 hF => ?_)
    · refine wfx 23 rfl c_8 ?_
      refine rn 4 rfl ?_
      refine bi hF (fun c_9 hF => ?_) (fun c_9 hF => ?_)
      · refine wfx 27 rfl c_9 ?_
        refine rn 8 rfl ?_
        refine ci hF rfl (fun c_10 hF => ?_) (fun c_10 hF => ?_)
        · obtain ⟨r_11, g_12, hF⟩ := bind_some hF
          refine rn 0 rfl ?_
          refine cl (ale rfl) (dWS b ([92, 10] : Str) _ g_12 _ _ io0 (fun st hs => ?_) _ hs)
          refine rj 1 1 rfl ?_
          exact ih (.p2 s width 0 r_6 t13_ t14_ r_11.2.2) _ hF _ _ io0 ⟨rfl, rfl, rfl, rfl, rfl, rfl, rfl, trivial⟩ hs
        · refine rj 0 1 rfl ?_
          exact ih (.p2 s width row r_6 t13_ t14_ b) _ hF _ _ io0 ⟨rfl, rfl, rfl, rfl, rfl, rfl, rfl, trivial⟩ hs
      · refine wfx 27 rfl c_9 ?_
        refine rn 8 rfl ?_
        refine cf rfl rfl ?_
        refine rj 0 1 rfl ?_
        exact ih (.p2 s width row r_6 t13_ t14_ b) _ hF _ _ io0 ⟨rfl, rfl, rfl, rfl, rfl, rfl, rfl, trivial⟩ hs
    · refine wfx 23 rfl c_8 ?_
      refine rn 12 rfl ?_
      refine cf rfl rfl ?_
      refine rj 0 1 rfl ?_
      exact ih (.p2 s width row r_6 t13_ t14_ b) _ hF _ _ io0 ⟨rfl, rfl, rfl, rfl, rfl, rfl, rfl, trivial⟩ hs
  · obtain ⟨r_13, g_14, hF⟩ := bind_some hF
    refine rn 0 rfl ?_
    refine cl (ale rfl) (dWS b ([36, 10] : Str) _ g_14 _ _ io0 (fun st hs => ?_) _ hs)
    obtain ⟨r_15, g_16, hF⟩ := bind_some hF
    refine rn 0 rfl ?_
    refine cl (ale rfl) (dST r_13.2.2 _ g_16 _ _ io0 (fun st hs => ?_) _ hs)
    refine rn 2 rfl ?_
    cases hF
    exact rD (rlt (rlt rl0)) rfl
 | p2 s width row t t13_ t14_ b =>
  dsimp only at hF
  intro tm st io0 hf hs
  refine en hf ?_
  obtain ⟨r_17, g_18, hF⟩ := bind_some hF
  refine rn 1 rfl ?_
  refine cl (ale rfl) (dWS b t _ g_18 _ _ io0 (fun st hs => ?_) _ hs)
  refine rn 7 rfl ?_
  exact ih (.p1 s width (IntKind.wrap .i64 (row + ((t).length : Int))) t13_ (IntKind.wrap .i64 (t14_ + 1)) r_17.2.2) _ hF _ _ io0 ⟨rfl, rfl, rfl, rfl, rfl, rfl, trivial⟩ hs
noncomputable def F26 (s : Str) (width : Int) : Option (Str × Int) :=
 (if (decide (width < 0)) = true then
  (some (([] : Str), 2))
 else
  (G26 (.p1 s width 0 ((s).length : Int) 0 ([] : Str))))
theorem d26 (s : Str) (width : Int) (r : Str × Int) (hF : F26 s width = some r) : DFun Tryd.prog gE 26 [AV.str s, AV.int .i64 width] (AV.tup [AV.str r.1, AV.int .i64 r.2]) := by
 unfold F26 at hF
 refine bD k26 rfl ?_
 have hs : SH [] [] := SH.nil
 generalize ([] : Store) = st at hs ⊢
 refine rn 4 rfl ?_
 refine ci hF rfl (fun c_1 hF => ?_) (fun c_1 hF => ?_)
 · refine rn 2 rfl ?_
   cases hF
   exact rD (rlt (rlt rl0)) rfl
 · refine rn 0 rfl ?_
   refine bld_new (T := 5) hs fun st b_2 hs => ?_
   refine rn 4 rfl ?_
   exact w26 (.p1 s width 0 ((s).length : Int) 0 ([] : Str)) _ hF _ _ b_2 ⟨rfl, rfl, rfl, rfl, rfl, rfl, trivial⟩ hs
/-! ### 19: paddock/lines.Join -/
def C19_20 : ACode := .s (.ops [q 12 (.faddr 0 5), q 13 (.load1 12), qc 14 40 [3, 13]]) (.s (.ops [q 15 (.faddr 1 5), q 16 (.load1 15)]) (.cond 16 (.ops [qc 17 41 [3, (ku 10)]]) .skip))
def C19_10 : ACode := .s (.ops [q 9 (.binI .lss 8 7)]) (.s (.cond 9 .skip (.exit 0)) (.s (.block 1 (.s (.ops [q 10 (.iaddrL 2 6 8), q 11 (.loadN 2 10), q 5 (.alloc [(.str []), (.bool false)]), q0 (.store 2 5 11)]) C19_20)) (.ops [q 18 (.binI .add 8 (ki 1)), q 8 (.mv 18)])))
def C19_28 : ACode := .s (.ops [qc 19 42 [3], q 2 (.mv 19)]) .ret
def C19_1 : ACode := .s (.ops [q 2 (.mv (.c (.str [])))]) (.s (.ops [q 3 (.allocB 60 2 [.nilptr, .nils])]) (.s (.s (.ops [q 6 (.mv 0), q 7 (.len 6), q 8 (.mv (ki 0))]) (.block 0 (.loop C19_10))) C19_28))
def R19 : List RA := [(.tmp 2)]
theorem k19 : compF Tryd.prog (muL []) 19 = some ⟨20, C19_1, R19⟩ := by kernel_rfl
noncomputable abbrev X19 (r : Str) : Cx := cD Tryd.prog gE 20 R19 (AV.str r)
inductive St19 where
 | p1 (t6_ : Sl T25) (t7_ : Int) (t8_ : Int) (b : Str)
noncomputable def G19 : St19 → Option Str
 | .p1 t6_ t7_ t8_ b =>
  (if (decide (t8_ < t7_)) = true then
   (ix (ls t6_) t8_ >>= fun v_3 =>
    (bWS b v_3.Text >>= fun r_6 =>
     (if v_3.Whole = true then
      (bWB r_6.2.2 10 >>= fun r_9 =>
       (G19 (.p1 t6_ t7_ (IntKind.wrap .i64 (t8_ + 1)) r_9.2)))
     else
      (G19 (.p1 t6_ t7_ (IntKind.wrap .i64 (t8_ + 1)) r_6.2.2)))))
  else
   (bST b >>= fun r_11 =>
    (some r_11)))
 partial_fixpoint
def M19 (x : St19) (r : Str) : Prop := match x with
 | .p1 t6_ t7_ t8_ b => ∀ (tm : Fr) (st : Store) (io0 : Nat), Frm tm [(3, .ptr io0 0), (6, slV 2 v25 t6_), (7, AV.int .i64 t7_), (8, AV.int .i64 t8_)] → SH st [bldA 60 5 io0 b] → W (X19 r) [.lp C19_10, .blk 0, .code C19_28] tm st
theorem w19 : ∀ (x : St19) (r : Str), G19 x = some r → M19 x r := by
 refine G19.partial_correctness M19 ?_
 intro g ih x r hF
 cases x with
 | p1 t6_ t7_ t8_ b =>
  dsimp only at hF
  intro tm st io0 hf hs
  refine en hf ?_
  refine lp ?_
  refine rn 1 rfl ?_
  refine ci hF rfl (fun c_2 hF => ?_) (fun c_2 hF => ?_)
  · obtain ⟨v_3, g_4, hF⟩ := bind_some hF
    refine rn 0 rfl ?_
    refine W.o (e_iaddrL (rd_V rfl) rfl g_4) ?_
    refine W.o (lND (s := c25 v_3) rfl rfl rfl) ?_
    refine al hs (cs := c25 ({ Text := [], Whole := false } : T25)) rfl fun st b_5 hs => ?_
    refine sr hs 0 rfl rfl rfl (cs' := c25 v_3) rfl rfl fun st hs => ?_
    refine rn 0 rfl ?_
    refine W.o (e_faddr rfl (hs.g 0 rfl)) ?_
    refine W.o (l1 rfl (hs.g 0 rfl) rfl) ?_
    obtain ⟨r_6, g_7, hF⟩ := bind_some hF
    refine cl (ale rfl) (dWS b v_3.Text _ g_7 _ _ io0 (fun st hs => ?_) _ (hs.p 2 [1, 0] rfl))
    refine rn 0 rfl ?_
    refine W.o (e_faddr rfl (hs.g 1 rfl)) ?_
    refine W.o (l1 rfl (hs.g 1 rfl) rfl) ?_
    refine rn 0 rfl ?_
    refine ci hF rfl (fun c_8 hF => ?_) (fun c_8 hF => ?_)
    · obtain ⟨r_9, g_10, hF⟩ := bind_some hF
      refine rn 0 rfl ?_
      refine cl (ale rfl) (dWB r_6.2.2 10 _ g_10 _ _ io0 (fun st hs => ?_) _ hs)
      refine rn 2 rfl ?_
      exact ih (.p1 t6_ t7_ (IntKind.wrap .i64 (t8_ + 1)) r_9.2) _ hF _ _ io0 ⟨rfl, rfl, rfl, rfl, trivial⟩ (hs.p 2 [0] rfl)
    · refine rn 2 rfl ?_
      exact ih (.p1 t6_ t7_ (IntKind.wrap .i64 (t8_ + 1)) r_6.2.2) _ hF _ _ io0 ⟨rfl, rfl, rfl, rfl, trivial⟩ (hs.p 2 [0] rfl)
  · obtain ⟨r_11, g_12, hF⟩ := bind_some hF
    refine rn 0 rfl ?_
    refine cl (ale rfl) (dST b _ g_12 _ _ io0 (fun st hs => ?_) _ hs)
    refine rn 1 rfl ?_
    cases hF
    exact rD (rlt rl0) rfl
noncomputable def F19 (l : Sl T25) : Option Str :=
 (G19 (.p1 l ((ls l).length : Int) 0 ([] : Str)))
theorem d19 (l : Sl T25) (r : Str) (hF : F19 l = some r) : DFun Tryd.prog gE 19 [slV 2 v25 l] (AV.str r) := by
 unfold F19 at hF
 refine bD k19 rfl ?_
 have hs : SH [] [] := SH.nil
 generalize ([] : Store) = st at hs ⊢
 refine rn 1 rfl ?_
 refine bld_new (T := 5) hs fun st b_1 hs => ?_
 refine rn 1 rfl ?_
 refine W.o (e_len (rd_V rfl)) ?_
 refine rn 1 rfl ?_
 exact w19 (.p1 l ((ls l).length : Int) 0 ([] : Str)) _ hF _ _ b_1 ⟨rfl, rfl, rfl, rfl, trivial⟩ hs
/-! ### 13: paddock/paddocklaw01.lives -/
def O13_8o1 : List AOp := (q 41 (.bslice 2 1 true [(.str []), (.bool false)] [(0, (2, 40))] false)).y 39 :: (qc 42 19 [41]).y 39 :: (q 43 (.binS .eql 42 (.c (.str [97, 10])))).y 39 :: q 44 (.pick 39 43 (.c (.bool false))) :: q 0 (.mv 44) :: []
def O13_8o0 : List AOp := q 17 (.mv 2) :: q 18 (.binI .eql 17 (ki 0)) :: q 19 (.mv 18) :: (q 20 (.mv 1)).y 19 :: (q 21 (.binS .eql 20 (.c (.str [97, 92, 116, 98, 92, 48, 48, 48, 92, 110, 36, 10])))).y 19 :: q 22 (.pick 19 21 (.c (.bool false))) :: q 23 (.mv 22) :: (q 24 (.mv 5)).y 23 :: (q 25 (.binI .eql 24 (ki 0))).y 23 :: q 26 (.pick 23 25 (.c (.bool false))) :: q 27 (.mv 26) :: (q 28 (.mv 4)).y 27 :: (q 29 (.binI .eql 28 (ki 5))).y 27 :: q 30 (.pick 27 29 (.c (.bool false))) :: q 31 (.mv 30) :: (q 32 (.mv 3)).y 31 :: (q 33 (.binS .eql 32 (.c (.str [97, 10])))).y 31 :: q 34 (.pick 31 33 (.c (.bool false))) :: q 35 (.mv 34) :: (qc 36 21 [(.c (.str [97, 10, 98]))]).y 35 :: (q 37 (.binI .eql 36 (ki 2))).y 35 :: q 38 (.pick 35 37 (.c (.bool false))) :: q 39 (.mv 38) :: (q 40 (.build [(.str []), (.bool false)] [(0, (1, (.c (.str [97])))), (1, (1, (.c (.bool true))))])).y 39 :: O13_8o1
def C13_1 : ACode := .s (.ops [q 0 (.mv (.c (.bool false)))]) (.s (.ops [qc 8 26 [(.c (.str [97, 9, 98, 0, 10])), (ki 0)], q 7 (.mv 8), q 9 (.extract 7 0), q 10 (.extract 7 1), q 1 (.mv 9), q 2 (.mv 10)]) (.s (.ops [qc 12 22 [(.c (.str [34, 97, 92, 110, 34, 120]))], q 11 (.mv 12), q 13 (.extract 11 0), q 14 (.extract 11 1), q 15 (.extract 11 2), q 16 (.extract 11 3), q 3 (.mv 13), q 4 (.mv 14), q 5 (.mv 15), q 6 (.mv 16)]) (.s (.ops O13_8o0) .ret)))
def R13 : List RA := [(.tmp 0)]
theorem k13 : compF Tryd.prog (muL []) 13 = some ⟨45, C13_1, R13⟩ := by kernel_rfl
noncomputable abbrev X13 (r : Bool) : Cx := cD Tryd.prog gE 45 R13 (AV.bool r)
noncomputable def F13  : Option Bool :=
 (F26 ([97, 9, 98, 0, 10] : Str) 0 >>= fun r_1 =>
  (F22 ([34, 97, 92, 110, 34, 120] : Str) >>= fun r_3 =>
   (if (r_1.2 == 0) = true then
    (if (r_1.1 == ([97, 92, 116, 98, 92, 48, 48, 48, 92, 110, 36, 10] : Str)) = true then
     (if (r_3.2.2.1 == 0) = true then
      (if (r_3.2.1 == 5) = true then
       (if (r_3.1 == ([97, 10] : Str)) = true then
        (F21 ([97, 10, 98] : Str) >>= fun r_10 =>
         (if (r_10 == 2) = true then
          (F19 (some ([({ Text := ([97] : Str), Whole := true } : T25)] : List T25)) >>= fun r_14 =>
           (some (r_14 == ([97, 10] : Str))))
         else
          (some false)))
       else
        (some false))
      else
       (some false))
     else
      (some false))
    else
     (some false))
   else
    (some false))))
theorem d13  (r : Bool) (hF : F13  = some r) : DFun Tryd.prog gE 13 [] (AV.bool r) := by
 unfold F13 at hF
 refine bD k13 rfl ?_
 have hs : SH [] [] := SH.nil
 generalize ([] : Store) = st at hs ⊢
 obtain ⟨r_1, g_2, hF⟩ := bind_some hF
 refine rn 1 rfl ?_
 refine df (d26 ([97, 9, 98, 0, 10] : Str) 0 _ g_2) rfl ?_
 obtain ⟨r_3, g_4, hF⟩ := bind_some hF
 refine rn 5 rfl ?_
 refine df (d22 ([34, 97, 92, 110, 34, 120] : Str) _ g_4) rfl ?_
 refine rn 12 rfl ?_
 refine bi hF (fun c_5 hF => ?_) (fun c_5 hF => ?_)
 · refine wfx 19 rfl c_5 ?_
   refine rn 4 rfl ?_
   refine bi hF (fun c_6 hF => ?_) (fun c_6 hF => ?_)
   · refine wfx 23 rfl c_6 ?_
     refine rn 4 rfl ?_
     refine bi hF (fun c_7 hF => ?_) (fun c_7 hF => ?_)
     · refine wfx 27 rfl c_7 ?_
       refine rn 4 rfl ?_
       refine bi hF (fun c_8 hF => ?_) (fun c_8 hF => ?_)
       · refine wfx 31 rfl c_8 ?_
         refine rn 4 rfl ?_
         refine bi hF (fun c_9 hF => ?_) (fun c_9 hF => ?_)
         · refine wfx 35 rfl c_9 ?_
           obtain ⟨r_10, g_11, hF⟩ := bind_some hF
           refine W.on rfl rfl ?_
           refine df (d21 ([97, 10, 98] : Str) _ g_11) rfl ?_
           refine rn 3 rfl ?_
           refine bi hF (fun c_12 hF => ?_) (fun c_12 hF => ?_)
           · refine wfx 39 rfl c_12 ?_
             refine W.on rfl rfl ?_
             refine W.o (bR (cs := c25 ({ Text := ([97] : Str), Whole := true } : T25)) rfl rfl) ?_
             refine W.on rfl rfl ?_
             refine bs (f := v25) ([({ Text := ([97] : Str), Whole := true } : T25)] : List T25) hs rfl rfl rfl rfl fun st b_13 hs => ?_
             obtain ⟨r_14, g_15, hF⟩ := bind_some hF
             refine W.on rfl rfl ?_
             refine df' (d19 (some ([({ Text := ([97] : Str), Whole := true } : T25)] : List T25)) _ g_15) (ds := [slV 2 v25 (some ([({ Text := ([97] : Str), Whole := true } : T25)] : List T25))]) (dsl_cons (dsw (es := 2) (f := v25) (o := (some ([({ Text := ([97] : Str), Whole := true } : T25)] : List T25))) (id := b_13)) dsl_nil) ?_
             refine rn 3 rfl ?_
             cases hF
             exact rD (rlt rl0) rfl
           · refine wfx 39 rfl c_12 ?_
             refine rn 6 rfl ?_
             cases hF
             exact rD (rlt rl0) rfl
         · refine wfx 35 rfl c_9 ?_
           refine rn 10 rfl ?_
           cases hF
           exact rD (rlt rl0) rfl
       · refine wfx 31 rfl c_8 ?_
         refine rn 14 rfl ?_
         cases hF
         exact rD (rlt rl0) rfl
     · refine wfx 27 rfl c_7 ?_
       refine rn 18 rfl ?_
       cases hF
       exact rD (rlt rl0) rfl
   · refine wfx 23 rfl c_6 ?_
     refine rn 22 rfl ?_
     cases hF
     exact rD (rlt rl0) rfl
 · refine wfx 19 rfl c_5 ?_
   refine rn 26 rfl ?_
   cases hF
   exact rD (rlt rl0) rfl
/-! ### 15: paddock/paddockref01.Same -/
def C15_26 : ACode := .s (.draw [] 0 0 [q 16 (.mv 0), q 17 (.mv 5), q 18 (.iaddrL 2 16 17), q 19 (.loadN 2 18), q 20 (.mv 1), q 21 (.mv 5), q 22 (.iaddrL 2 20 21), q 23 (.loadN 2 22), q 24 (.eqA true [.s, .b] 19 23)] []) (.cond 24 (.s (.ops [q 4 (.mv (.c (.bool false)))]) .ret) .skip)
def C15_16 : ACode := .s (.ops [q 14 (.binI .lss 13 12)]) (.s (.cond 14 .skip (.exit 0)) (.s (.block 1 (.s (.ops [q 15 (.mv 13), q 5 (.mv 15)]) C15_26)) (.ops [q 25 (.binI .add 13 (ki 1)), q 13 (.mv 25)])))
def C15_34 : ACode := .s (.ops [q 4 (.mv (.c (.bool true)))]) .ret
def C15_1 : ACode := .s (.ops [q 4 (.mv (.c (.bool false)))]) (.s (.s (.ops [q 6 (.mv 0), q 7 (.len 6), q 8 (.mv 1), q 9 (.len 8), q 10 (.binI .neq 7 9)]) (.cond 10 (.s (.ops [q 4 (.mv (.c (.bool false)))]) .ret) .skip)) (.s (.s (.ops [q 11 (.mv 0), q 12 (.len 11), q 13 (.mv (ki 0))]) (.block 0 (.loop C15_16))) C15_34))
def R15 : List RA := [(.tmp 4)]
theorem k15 : compF Tryd.prog (muL []) 15 = some ⟨26, C15_1, R15⟩ := by kernel_rfl
noncomputable abbrev X15 (r : Bool) : Cx := cD Tryd.prog gE 26 R15 (AV.bool r)
inductive St15 where
 | p1 (a : Sl T25) (b : Sl T25) (t12_ : Int) (t13_ : Int)
noncomputable def G15 : St15 → Option Bool
 | .p1 a b t12_ t13_ =>
  (if (decide (t13_ < t12_)) = true then
   (ix (ls a) t13_ >>= fun v_3 =>
    (ix (ls b) t13_ >>= fun v_5 =>
     (if (!decide (v_3 = v_5)) = true then
      (some false)
     else
      (G15 (.p1 a b t12_ (IntKind.wrap .i64 (t13_ + 1)))))))
  else
   (some true))
 partial_fixpoint
def M15 (x : St15) (r : Bool) : Prop := match x with
 | .p1 a b t12_ t13_ => ∀ (tm : Fr) (st : Store), Frm tm [(0, slV 2 v25 a), (1, slV 2 v25 b), (12, AV.int .i64 t12_), (13, AV.int .i64 t13_)] → SH st [] → W (X15 r) [.lp C15_16, .blk 0, .code C15_34] tm st
theorem w15 : ∀ (x : St15) (r : Bool), G15 x = some r → M15 x r := by
 refine G15.partial_correctness M15 ?_
 intro g ih x r hF
 cases x with
 | p1 a b t12_ t13_ =>
  dsimp only at hF
  intro tm st hf hs
  refine en hf ?_
  refine lp ?_
  refine rn 1 rfl ?_
  refine ci hF rfl (fun c_2 hF => ?_) (fun c_2 hF => ?_)
  · refine rn 2 rfl ?_
    have h0 := hs
    refine dr0 ?_
    obtain ⟨v_3, g_4, hF⟩ := bind_some hF
    refine dn 2 rfl ?_
    refine de rfl (e_iaddrL (rd_V rfl) rfl g_4) ?_
    refine de rfl (lND (s := c25 v_3) rfl rfl rfl) ?_
    obtain ⟨v_5, g_6, hF⟩ := bind_some hF
    refine dn 2 rfl ?_
    refine de rfl (e_iaddrL (rd_V rfl) rfl g_6) ?_
    refine de rfl (lND (s := c25 v_5) rfl rfl rfl) ?_
    refine de rfl (e_neA rfl rfl (c25_eq v_3 v_5)) ?_
    refine dz ?_
    refine rn 0 rfl ?_
    refine ci hF rfl (fun c_7 hF => ?_) (fun c_7 hF => ?_)
    · refine rn 1 rfl ?_
      cases hF
      exact rD (rlt rl0) rfl
    · refine rn 2 rfl ?_
      exact ih (.p1 a b t12_ (IntKind.wrap .i64 (t13_ + 1))) _ hF _ _ ⟨rfl, rfl, rfl, rfl, trivial⟩ hs
  · refine rn 1 rfl ?_
    cases hF
    exact rD (rlt rl0) rfl
noncomputable def F15 (a : Sl T25) (b : Sl T25) : Option Bool :=
 (if (((ls a).length : Int) != ((ls b).length : Int)) = true then
  (some false)
 else
  (G15 (.p1 a b ((ls a).length : Int) 0)))
theorem d15 (a : Sl T25) (b : Sl T25) (r : Bool) (hF : F15 a b = some r) : DFun Tryd.prog gE 15 [slV 2 v25 a, slV 2 v25 b] (AV.bool r) := by
 unfold F15 at hF
 refine bD k15 rfl ?_
 have hs : SH [] [] := SH.nil
 generalize ([] : Store) = st at hs ⊢
 refine rn 2 rfl ?_
 refine W.o (e_len (rd_V rfl)) ?_
 refine rn 1 rfl ?_
 refine W.o (e_len (rd_V rfl)) ?_
 refine rn 1 rfl ?_
 refine ci hF rfl (fun c_1 hF => ?_) (fun c_1 hF => ?_)
 · refine rn 1 rfl ?_
   cases hF
   exact rD (rlt rl0) rfl
 · refine rn 1 rfl ?_
   refine W.o (e_len (rd_V rfl)) ?_
   refine rn 1 rfl ?_
   exact w15 (.p1 a b ((ls a).length : Int) 0) _ hF _ _ ⟨rfl, rfl, rfl, rfl, trivial⟩ hs
/-! ### 16: paddock/paddockref01.Split -/
def C16_22 : ACode := .cond 15 (.s (.ops [q 16 (.mv 3), q 17 (.mv 0), q 18 (.mv 4), q 19 (.mv 5), q 20 (.slS 17 (.some 18) (.some 19)), q 21 (.build [(.str []), (.bool false)] [(0, (1, 20)), (1, (1, (.c (.bool true))))]), q 22 (.bslice 2 1 true [(.str []), (.bool false)] [(0, (2, 21))] false), q 23 (.app 2 24 16 22), q 3 (.mv 23)]) (.ops [q 24 (.mv 5), q 25 (.binI .add 24 (ki 1)), q 4 (.mv 25)])) .skip
def C16_12 : ACode := .s (.s (.ops [q 6 (.mv 5), q 7 (.mv 0), q 8 (.lenS 7), q 9 (.binI .lss 6 8)]) (.cond 9 .skip (.exit 0))) (.s (.block 1 (.s (.ops [q 12 (.mv 0), q 13 (.mv 5), q 14 (.ixS 12 13), q 15 (.binI .eql 14 (ku 10))]) C16_22)) (.ops [q 10 (.mv 5), q 11 (.binI .add 10 (ki 1)), q 5 (.mv 11)]))
def C16_28 : ACode := .s (.s (.ops [q 26 (.mv 4), q 27 (.mv 0), q 28 (.lenS 27), q 29 (.binI .lss 26 28)]) (.cond 29 (.ops [q 30 (.mv 3), q 31 (.mv 0), q 32 (.mv 4), q 33 (.slS 31 (.some 32) .none), q 34 (.build [(.str []), (.bool false)] [(0, (1, 33))]), q 35 (.bslice 2 1 true [(.str []), (.bool false)] [(0, (2, 34))] false), q 36 (.app 2 24 30 35), q 3 (.mv 36)]) .skip)) (.s (.ops [q 37 (.mv 3), q 2 (.mv 37)]) .ret)
def C16_1 : ACode := .s (.ops [q 2 (.mv (.c .nils))]) (.s (.ops [q 3 (.mv (.c .nils))]) (.s (.ops [q 4 (.mv (ki 0))]) (.s (.s (.ops [q 5 (.mv (ki 0))]) (.block 0 (.loop C16_12))) C16_28)))
def R16 : List RA := [(.tmp 2)]
theorem k16 : compF Tryd.prog (muL []) 16 = some ⟨38, C16_1, R16⟩ := by kernel_rfl
noncomputable abbrev X16 (K : AV → Store → Prop) : Cx := cK Tryd.prog gE 38 R16 K
inductive St16 where
 | p1 (s : Str) (from_ : Int) (i : Int) (out : Sl T25)
noncomputable def G16 : St16 → Option (Sl T25)
 | .p1 s from_ i out =>
  (if (decide (i < ((s).length : Int))) = true then
   (ix s i >>= fun b_3 =>
    (if ((b_3.toNat : Int) == 10) = true then
     (strcut s from_ i >>= fun w_6 =>
      (if ((ls out).length + (ls (some ([({ Text := w_6, Whole := true } : T25)] : List T25))).length) * 24 ≤ 140737488355328 then
       (G16 (.p1 s (IntKind.wrap .i64 (i + 1)) (IntKind.wrap .i64 (i + 1)) (sapp out (ls (some ([({ Text := w_6, Whole := true } : T25)] : List T25))))))
      else none))
    else
     (G16 (.p1 s from_ (IntKind.wrap .i64 (i + 1)) out))))
  else
   (if (decide (from_ < ((s).length : Int))) = true then
    (strcut s from_ ((s).length) >>= fun w_12 =>
     (if ((ls out).length + (ls (some ([({ Text := w_12, Whole := false } : T25)] : List T25))).length) * 24 ≤ 140737488355328 then
      (some (sapp out (ls (some ([({ Text := w_12, Whole := false } : T25)] : List T25)))))
     else none))
   else
    (some out)))
 partial_fixpoint
def M16 (x : St16) (r : Sl T25) : Prop := match x with
 | .p1 s from_ i out => ∀ (K : AV → Store → Prop) (Ls : List Asn), (∀ st id, SH st (ownA id r :: Ls) → K (ownV 2 v25 r id) st) → ∀ (tm : Fr) (st : Store) (io0 : Nat), Frm tm [(0, AV.str s), (3, ownV 2 v25 out io0), (4, AV.int .i64 from_), (5, AV.int .i64 i)] → SH st (ownA io0 out :: Ls) → W (X16 K) [.lp C16_12, .blk 0, .code C16_28] tm st
theorem w16 : ∀ (x : St16) (r : Sl T25), G16 x = some r → M16 x r := by
 refine G16.partial_correctness M16 ?_
 intro g ih x r hF
 cases x with
 | p1 s from_ i out =>
  dsimp only at hF
  intro K Ls hK tm st io0 hf hs
  refine en hf ?_
  refine lp ?_
  refine rn 4 rfl ?_
  refine ci hF rfl (fun c_2 hF => ?_) (fun c_2 hF => ?_)
  · obtain ⟨b_3, g_4, hF⟩ := bind_some hF
    refine rn 2 rfl ?_
    refine W.o (e_ixS rfl rfl g_4) ?_
    refine rn 1 rfl ?_
    refine ci hF rfl (fun c_5 hF => ?_) (fun c_5 hF => ?_)
    · obtain ⟨w_6, g_7, hF⟩ := bind_some hF
      refine rn 4 rfl ?_
      refine W.o (e_slS2 rfl rfl rfl g_7) ?_
      refine W.o (bR (cs := c25 ({ Text := w_6, Whole := true } : T25)) rfl rfl) ?_
      refine bs (f := v25) ([({ Text := w_6, Whole := true } : T25)] : List T25) hs rfl rfl rfl rfl fun st b_8 hs => ?_
      obtain ⟨g_9, hF⟩ := grd_some hF
      refine ap (ys := ls (some ([({ Text := w_6, Whole := true } : T25)] : List T25))) hs 1 rfl rfl (ae_rd (rd_W (o := (some ([({ Text := w_6, Whole := true } : T25)] : List T25))) (id := b_8) rfl)) g_9 (fun _ => rfl) fun st b_10 hs => ?_
      refine rn 7 rfl ?_
      exact ih (.p1 s (IntKind.wrap .i64 (i + 1)) (IntKind.wrap .i64 (i + 1)) (sapp out (ls (some ([({ Text := w_6, Whole := true } : T25)] : List T25))))) _ hF K Ls hK _ _ b_10 ⟨rfl, rfl, rfl, rfl, trivial⟩ (hs.p 2 [1] rfl)
    · refine rn 3 rfl ?_
      exact ih (.p1 s from_ (IntKind.wrap .i64 (i + 1)) out) _ hF K Ls hK _ _ io0 ⟨rfl, rfl, rfl, rfl, trivial⟩ hs
  · refine rn 4 rfl ?_
    refine ci hF rfl (fun c_11 hF => ?_) (fun c_11 hF => ?_)
    · obtain ⟨w_12, g_13, hF⟩ := bind_some hF
      refine rn 3 rfl ?_
      refine W.o (e_slSl rfl rfl g_13) ?_
      refine W.o (bR (cs := c25 ({ Text := w_12, Whole := false } : T25)) rfl rfl) ?_
      refine bs (f := v25) ([({ Text := w_12, Whole := false } : T25)] : List T25) hs rfl rfl rfl rfl fun st b_14 hs => ?_
      obtain ⟨g_15, hF⟩ := grd_some hF
      refine ap (ys := ls (some ([({ Text := w_12, Whole := false } : T25)] : List T25))) hs 1 rfl rfl (ae_rd (rd_W (o := (some ([({ Text := w_12, Whole := false } : T25)] : List T25))) (id := b_14) rfl)) g_15 (fun _ => rfl) fun st b_16 hs => ?_
      refine rn 3 rfl ?_
      cases hF
      exact rK (rlt rl0) (hK _ _ (hs.p 2 [1] rfl)) rfl
    · refine rn 2 rfl ?_
      cases hF
      exact rK (rlt rl0) (hK _ _ (hs.p 1 [0] rfl)) rfl
noncomputable def F16 (s : Str) : Option (Sl T25) :=
 (G16 (.p1 s 0 0 none))
theorem d16 (s : Str) (r : Sl T25) (hF : F16 s = some r) : ∀ (K : AV → Store → Prop) (Ls : List Asn) (st : Store), SH st Ls → (∀ st id, SH st (ownA id r :: Ls) → K (ownV 2 v25 r id) st) → XCall Tryd.prog gE 16 [AV.str s] st K := by
 unfold F16 at hF
 intro K Ls st hs hK
 refine bK k16 rfl ?_
 refine rn 4 rfl ?_
 have hs := hs.ownNil T25
 exact w16 (.p1 s 0 0 none) _ hF K Ls hK _ _ 0 ⟨rfl, rfl, rfl, rfl, trivial⟩ hs
/-! ### 17: paddock/lines.First -/
def C17_1 : ACode := .s (.ops [q 2 (.mv (.c (.str []))), q 3 (.mv (.c (.str []))), q 4 (.mv (.c (.bool false)))]) (.s (.ops [q 5 (.mv 0), qc 6 39 [5, (.c (.str [10]))], q 7 (.extract 6 0), q 8 (.extract 6 1), q 9 (.extract 6 2), q 2 (.mv 7), q 3 (.mv 8), q 4 (.mv 9)]) .ret)
def R17 : List RA := [(.tmp 2), (.tmp 3), (.tmp 4)]
theorem k17 : compF Tryd.prog (muL []) 17 = some ⟨10, C17_1, R17⟩ := by kernel_rfl
noncomputable abbrev X17 (r : Str × Str × Bool) : Cx := cD Tryd.prog gE 10 R17 (AV.tup [AV.str r.1, AV.str r.2.1, AV.bool r.2.2])
noncomputable def F17 (s : Str) : Option (Str × Str × Bool) :=
 (F39 s ([10] : Str) >>= fun r_1 =>
  (some (r_1.1, r_1.2.1, r_1.2.2)))
theorem d17 (s : Str) (r : Str × Str × Bool) (hF : F17 s = some r) : DFun Tryd.prog gE 17 [AV.str s] (AV.tup [AV.str r.1, AV.str r.2.1, AV.bool r.2.2]) := by
 unfold F17 at hF
 refine bD k17 rfl ?_
 have hs : SH [] [] := SH.nil
 generalize ([] : Store) = st at hs ⊢
 obtain ⟨r_1, g_2, hF⟩ := bind_some hF
 refine rn 4 rfl ?_
 refine df (d39 s ([10] : Str) _ g_2) rfl ?_
 refine rn 6 rfl ?_
 cases hF
 exact rD (rlt (rlt (rlt rl0))) rfl
end Go.Proofs.YtllhdbdbdblimaaDoor
