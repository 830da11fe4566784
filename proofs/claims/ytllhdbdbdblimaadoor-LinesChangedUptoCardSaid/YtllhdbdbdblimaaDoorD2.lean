/-
  Functions of the program's as plain functions.
-/
import Derived.Test.YtllhdbdbdblimaaDoorD1
set_option linter.unusedVariables false
set_option maxRecDepth 4000
set_option maxHeartbeats 4000000
namespace Go.Proofs.YtllhdbdbdblimaaDoor
open Go AW
attribute [local irreducible] W WD SH XS XLoop DFun XCall
/-! ### 51: paddock/lines.common -/
def C51_10 : ACode := .s (.ops [q 16 (.binI .lss 15 14)]) (.s (.cond 16 .skip (.exit 0)) (.s (.block 1 (.s (.ops [q 17 (.mv 15), q 6 (.mv 17)]) (.ops [q 18 (.mv 5), q 19 (.mv 6), q 20 (.mv 1), q 21 (.len 20), q 22 (.binI .add 21 (ki 1)), q 23 (.mkslice 1 2 [(.int .u16 0)] 22 22 true), q 24 (.iaddrL 1 18 19), q0 (.store 1 24 23)]))) (.ops [q 25 (.binI .add 15 (ki 1)), q 15 (.mv 25)])))
def C51_39 : ACode := .s (.s (.ops [q 36 (.mv 8), q 37 (.binI .geq 36 (ki 0))]) (.cond 37 .skip (.exit 4))) (.s (.block 5 (.s (.draw [] 0 0 [q 40 (.mv 0), q 41 (.mv 7), q 42 (.iaddrL 2 40 41), q 43 (.loadN 2 42), q 44 (.mv 1), q 45 (.mv 8), q 46 (.iaddrL 2 44 45), q 47 (.loadN 2 46), q 48 (.eqA false [.s, .b] 43 47)] []) (.cond 48 (.draw [] 0 0 [q 49 (.mv 5), q 50 (.mv 7), q 51 (.iaddrL 1 49 50), q 52 (.load1 51), q 53 (.mv 8), q 54 (.mv 5), q 55 (.mv 7), q 56 (.binI .add 55 (ki 1)), q 57 (.iaddrL 1 54 56), q 58 (.load1 57), q 59 (.mv 8), q 60 (.binI .add 59 (ki 1)), q 61 (.iaddrL 1 58 60), q 62 (.load1 61), q 63 (.binI .add 62 (.c (.int .u16 1))), q 64 (.iaddrL 1 52 53)] [q0 (.store 1 64 63)]) (.draw [] 0 0 [q 65 (.mv 5), q 66 (.mv 7), q 67 (.iaddrL 1 65 66), q 68 (.load1 67), q 69 (.mv 8), q 70 (.mv 5), q 71 (.mv 7), q 72 (.binI .add 71 (ki 1)), q 73 (.iaddrL 1 70 72), q 74 (.load1 73), q 75 (.mv 8), q 76 (.iaddrL 1 74 75), q 77 (.load1 76), q 78 (.mv 5), q 79 (.mv 7), q 80 (.iaddrL 1 78 79), q 81 (.load1 80), q 82 (.mv 8), q 83 (.binI .add 82 (ki 1)), q 84 (.iaddrL 1 81 83), q 85 (.load1 84), q 86 (.max [77, 85]), q 87 (.iaddrL 1 68 69)] [q0 (.store 1 87 86)])))) (.ops [q 38 (.mv 8), q 39 (.binI .sub 38 (ki 1)), q 8 (.mv 39)]))
def C51_53 : ACode := .ops [q 31 (.mv 7), q 32 (.binI .sub 31 (ki 1)), q 7 (.mv 32)]
def C51_27 : ACode := .s (.s (.ops [q 29 (.mv 7), q 30 (.binI .geq 29 (ki 0))]) (.cond 30 .skip (.exit 2))) (.s (.block 3 (.s (.ops [q 33 (.mv 1), q 34 (.len 33), q 35 (.binI .sub 34 (ki 1)), q 8 (.mv 35)]) (.block 4 (.loop C51_39)))) C51_53)
def C51_54 : ACode := .s (.ops [q 88 (.mv 5), q 4 (.mv 88)]) .ret
def C51_22 : ACode := .s (.s (.ops [q 26 (.mv 0), q 27 (.len 26), q 28 (.binI .sub 27 (ki 1)), q 7 (.mv 28)]) (.block 2 (.loop C51_27))) C51_54
def C51_1 : ACode := .s (.ops [q 4 (.mv (.c .nils))]) (.s (.ops [q 9 (.mv 0), q 10 (.len 9), q 11 (.binI .add 10 (ki 1)), q 12 (.mkslice 1 24 [.nils] 11 11 true), q 5 (.mv 12)]) (.s (.s (.ops [q 13 (.mv 5), q 14 (.len 13), q 15 (.mv (ki 0))]) (.block 0 (.loop C51_10))) C51_22))
def R51 : List RA := [(.tmp 4)]
theorem k51 : compF Tryd.prog (muL [12, 23]) 51 = some ⟨89, C51_1, R51⟩ := by kernel_rfl
noncomputable abbrev X51 (K : AV → Store → Prop) : Cx := cK Tryd.prog gE 89 R51 K [12, 23]
inductive St51 where
 | p1 (a : Sl T25) (b : Sl T25) (t14_ : Int) (t15_ : Int) (t : List (Sl Int))
 | p2 (a : Sl T25) (b : Sl T25) (i : Int) (t : List (Sl Int))
 | p3 (a : Sl T25) (b : Sl T25) (i : Int) (k : Int) (t : List (Sl Int))
noncomputable def G51 : St51 → Option (List (Sl Int))
 | .p1 a b t14_ t15_ t =>
  (if (decide (t15_ < t14_)) = true then
   (if 0 ≤ (IntKind.wrap .i64 (((ls b).length : Int) + 1)) ∧ (IntKind.wrap .i64 (((ls b).length : Int) + 1)) = (IntKind.wrap .i64 (((ls b).length : Int) + 1)) ∧ (2 : Int) * (IntKind.wrap .i64 (((ls b).length : Int) + 1)) ≤ 281474976710656 then
    (ix t t15_ >>= fun v_6 =>
     (G51 (.p1 a b t14_ (IntKind.wrap .i64 (t15_ + 1)) (List.set t (Int.toNat t15_) (some (List.replicate (Int.toNat (IntKind.wrap .i64 (((ls b).length : Int) + 1))) (0 : Int)))))))
   else none)
  else
   (G51 (.p2 a b (IntKind.wrap .i64 (((ls a).length : Int) - 1)) t)))
 | .p2 a b i t =>
  (if (decide (i ≥ 0)) = true then
   (G51 (.p3 a b i (IntKind.wrap .i64 (((ls b).length : Int) - 1)) t))
  else
   (some t))
 | .p3 a b i k t =>
  (if (decide (k ≥ 0)) = true then
   (ix (ls a) i >>= fun v_10 =>
    (ix (ls b) k >>= fun v_12 =>
     (if (decide (v_10 = v_12)) = true then
      (ix t i >>= fun v_15 =>
       (ix t (IntKind.wrap .i64 (i + 1)) >>= fun v_17 =>
        (ix (ls v_17) (IntKind.wrap .i64 (k + 1)) >>= fun v_19 =>
         (ix (ls v_15) k >>= fun v_21 =>
          (G51 (.p3 a b i (IntKind.wrap .i64 (k - 1)) (List.set t (Int.toNat i) (vset v_15 k (IntKind.wrap .u16 (v_19 + 1))))))))))
     else
      (ix t i >>= fun v_23 =>
       (ix t (IntKind.wrap .i64 (i + 1)) >>= fun v_25 =>
        (ix (ls v_25) k >>= fun v_27 =>
         (ix t i >>= fun v_29 =>
          (ix (ls v_29) (IntKind.wrap .i64 (k + 1)) >>= fun v_31 =>
           (ix (ls v_23) k >>= fun v_33 =>
            (G51 (.p3 a b i (IntKind.wrap .i64 (k - 1)) (List.set t (Int.toNat i) (vset v_23 k (if v_31 > v_27 then v_31 else v_27))))))))))))))
  else
   (G51 (.p2 a b (IntKind.wrap .i64 (i - 1)) t)))
 partial_fixpoint
def M51 (x : St51) (r : List (Sl Int)) : Prop := match x with
 | .p1 a b t14_ t15_ t => ∀ (K : AV → Store → Prop) (Ls : List Asn), (∀ st id ids, SH st (pt id (.cells (rrC 1 ids r)) :: rrB (cI .u16) ids r :: Ls) → K (.row id 1 0 r.length) st) → ∀ (tm : Fr) (st : Store) (io0 : Nat) (io1 : List Nat), Frm tm [(0, slV 2 v25 a), (1, slV 2 v25 b), (5, .row io0 1 0 t.length), (14, AV.int .i64 t14_), (15, AV.int .i64 t15_)] → SH st (pt io0 (.cells (rrC 1 io1 t)) :: rrB (cI .u16) io1 t :: Ls) → W (X51 K) [.lp C51_10, .blk 0, .code C51_22] tm st
 | .p2 a b i t => ∀ (K : AV → Store → Prop) (Ls : List Asn), (∀ st id ids, SH st (pt id (.cells (rrC 1 ids r)) :: rrB (cI .u16) ids r :: Ls) → K (.row id 1 0 r.length) st) → ∀ (tm : Fr) (st : Store) (io0 : Nat) (io1 : List Nat), Frm tm [(0, slV 2 v25 a), (1, slV 2 v25 b), (5, .row io0 1 0 t.length), (7, AV.int .i64 i)] → SH st (pt io0 (.cells (rrC 1 io1 t)) :: rrB (cI .u16) io1 t :: Ls) → W (X51 K) [.lp C51_27, .blk 2, .code C51_54] tm st
 | .p3 a b i k t => ∀ (K : AV → Store → Prop) (Ls : List Asn), (∀ st id ids, SH st (pt id (.cells (rrC 1 ids r)) :: rrB (cI .u16) ids r :: Ls) → K (.row id 1 0 r.length) st) → ∀ (tm : Fr) (st : Store) (io0 : Nat) (io1 : List Nat), Frm tm [(0, slV 2 v25 a), (1, slV 2 v25 b), (5, .row io0 1 0 t.length), (7, AV.int .i64 i), (8, AV.int .i64 k)] → SH st (pt io0 (.cells (rrC 1 io1 t)) :: rrB (cI .u16) io1 t :: Ls) → W (X51 K) [.lp C51_39, .blk 4, .blk 3, .code C51_53, .lp C51_27, .blk 2, .code C51_54] tm st
theorem w51 : ∀ (x : St51) (r : List (Sl Int)), G51 x = some r → M51 x r := by
 refine G51.partial_correctness M51 ?_
 intro g ih x r hF
 cases x with
 | p1 a b t14_ t15_ t =>
  dsimp only at hF
  intro K Ls hK tm st io0 io1 hf hs
  refine en hf ?_
  refine lp ?_
  refine rn 1 rfl ?_
  refine ci hF rfl (fun c_3 hF => ?_) (fun c_3 hF => ?_)
  · refine rn 5 rfl ?_
    refine W.o (e_len (rd_V rfl)) ?_
    obtain ⟨g_5, hF⟩ := grd_some hF
    refine rn 1 rfl ?_
    refine mkV (c := cI .u16) (0 : Int) hs rfl rfl rfl g_5 fun st b_4 hs => ?_
    obtain ⟨v_6, g_7, hF⟩ := bind_some hF
    refine W.o (e_iaddrO rfl (hs.g 1 rfl) rfl g_7) ?_
    refine stO hs 0 rfl 0 1 rfl rfl rfl rfl rfl g_7 rfl rfl fun st hs => ?_
    refine rn 2 rfl ?_
    exact ih (.p1 a b t14_ (IntKind.wrap .i64 (t15_ + 1)) (List.set t (Int.toNat t15_) (some (List.replicate (Int.toNat (IntKind.wrap .i64 (((ls b).length : Int) + 1))) (0 : Int))))) _ hF K Ls hK _ _ io0 (List.set io1 (Int.toNat t15_) b_4) ⟨rfl, rfl, (show AV.row io0 1 0 t.length = AV.row io0 1 0 (List.set t (Int.toNat t15_) (some (List.replicate (Int.toNat (IntKind.wrap .i64 (((ls b).length : Int) + 1))) (0 : Int)))).length by simp only [List.length_set]), rfl, rfl, trivial⟩ hs
  · refine rn 1 rfl ?_
    refine W.o (e_len (rd_V rfl)) ?_
    refine rn 2 rfl ?_
    exact ih (.p2 a b (IntKind.wrap .i64 (((ls a).length : Int) - 1)) t) _ hF K Ls hK _ _ io0 io1 ⟨rfl, rfl, rfl, rfl, trivial⟩ hs
 | p2 a b i t =>
  dsimp only at hF
  intro K Ls hK tm st io0 io1 hf hs
  refine en hf ?_
  refine lp ?_
  refine rn 2 rfl ?_
  refine ci hF rfl (fun c_8 hF => ?_) (fun c_8 hF => ?_)
  · refine rn 1 rfl ?_
    refine W.o (e_len (rd_V rfl)) ?_
    refine rn 2 rfl ?_
    exact ih (.p3 a b i (IntKind.wrap .i64 (((ls b).length : Int) - 1)) t) _ hF K Ls hK _ _ io0 io1 ⟨rfl, rfl, rfl, rfl, rfl, trivial⟩ hs
  · refine rn 2 rfl ?_
    cases hF
    exact rK (rlt rl0) (hK _ _ _ (hs.p 2 [0, 0] rfl)) rfl
 | p3 a b i k t =>
  dsimp only at hF
  intro K Ls hK tm st io0 io1 hf hs
  refine en hf ?_
  refine lp ?_
  refine rn 2 rfl ?_
  refine ci hF rfl (fun c_9 hF => ?_) (fun c_9 hF => ?_)
  · refine rn 0 rfl ?_
    have h0 := hs
    refine dr0 ?_
    obtain ⟨v_10, g_11, hF⟩ := bind_some hF
    refine dn 2 rfl ?_
    refine de rfl (e_iaddrL (rd_V rfl) rfl g_11) ?_
    refine de rfl (lND (s := c25 v_10) rfl rfl rfl) ?_
    obtain ⟨v_12, g_13, hF⟩ := bind_some hF
    refine dn 2 rfl ?_
    refine de rfl (e_iaddrL (rd_V rfl) rfl g_13) ?_
    refine de rfl (lND (s := c25 v_12) rfl rfl rfl) ?_
    refine de rfl (e_eqA rfl rfl (c25_eq v_10 v_12)) ?_
    refine dz ?_
    refine rn 0 rfl ?_
    refine ci hF rfl (fun c_14 hF => ?_) (fun c_14 hF => ?_)
    · have h0 := hs
      refine dr0 ?_
      obtain ⟨v_15, g_16, hF⟩ := bind_some hF
      refine dn 2 rfl ?_
      refine de rfl (e_iaddrO rfl (h0.g 0 rfl) rfl g_16) ?_
      refine de rfl (e_rr1 rfl (h0.g 0 rfl) h0 1 rfl g_16) ?_
      obtain ⟨v_17, g_18, hF⟩ := bind_some hF
      refine dn 4 rfl ?_
      refine de rfl (e_iaddrO rfl (h0.g 0 rfl) rfl g_18) ?_
      refine de rfl (e_rr1 rfl (h0.g 0 rfl) h0 1 rfl g_18) ?_
      obtain ⟨v_19, g_20, hF⟩ := bind_some hF
      refine dn 2 rfl ?_
      refine de rfl (e_iaddrI h0 1 rfl g_18 rfl rfl g_20) ?_
      refine de rfl (e_load1 rfl (SH.rrG h0 1 rfl g_18 g_20) (lrV_get (cI_len .u16) g_20)) ?_
      obtain ⟨v_21, g_22, hF⟩ := bind_some hF
      refine dn 1 rfl ?_
      refine de rfl (e_iaddrI h0 1 rfl g_16 rfl rfl g_22) ?_
      refine dz ?_
      refine stI (c := cI .u16) (v' := (IntKind.wrap .u16 (v_19 + 1))) hs 0 1 rfl rfl rfl rfl g_16 g_22 (cI_len .u16) ((cI_one .u16) _) rfl rfl fun st hs => ?_
      refine rn 3 rfl ?_
      exact ih (.p3 a b i (IntKind.wrap .i64 (k - 1)) (List.set t (Int.toNat i) (vset v_15 k (IntKind.wrap .u16 (v_19 + 1))))) _ hF K Ls hK _ _ io0 io1 ⟨rfl, rfl, (show AV.row io0 1 0 t.length = AV.row io0 1 0 (List.set t (Int.toNat i) (vset v_15 k (IntKind.wrap .u16 (v_19 + 1)))).length by simp only [List.length_set]), rfl, rfl, trivial⟩ hs
    · have h0 := hs
      refine dr0 ?_
      obtain ⟨v_23, g_24, hF⟩ := bind_some hF
      refine dn 2 rfl ?_
      refine de rfl (e_iaddrO rfl (h0.g 0 rfl) rfl g_24) ?_
      refine de rfl (e_rr1 rfl (h0.g 0 rfl) h0 1 rfl g_24) ?_
      obtain ⟨v_25, g_26, hF⟩ := bind_some hF
      refine dn 4 rfl ?_
      refine de rfl (e_iaddrO rfl (h0.g 0 rfl) rfl g_26) ?_
      refine de rfl (e_rr1 rfl (h0.g 0 rfl) h0 1 rfl g_26) ?_
      obtain ⟨v_27, g_28, hF⟩ := bind_some hF
      refine dn 1 rfl ?_
      refine de rfl (e_iaddrI h0 1 rfl g_26 rfl rfl g_28) ?_
      refine de rfl (e_load1 rfl (SH.rrG h0 1 rfl g_26 g_28) (lrV_get (cI_len .u16) g_28)) ?_
      obtain ⟨v_29, g_30, hF⟩ := bind_some hF
      refine dn 2 rfl ?_
      refine de rfl (e_iaddrO rfl (h0.g 0 rfl) rfl g_30) ?_
      refine de rfl (e_rr1 rfl (h0.g 0 rfl) h0 1 rfl g_30) ?_
      obtain ⟨v_31, g_32, hF⟩ := bind_some hF
      refine dn 2 rfl ?_
      refine de rfl (e_iaddrI h0 1 rfl g_30 rfl rfl g_32) ?_
      refine de rfl (e_load1 rfl (SH.rrG h0 1 rfl g_30 g_32) (lrV_get (cI_len .u16) g_32)) ?_
      obtain ⟨v_33, g_34, hF⟩ := bind_some hF
      refine dn 1 rfl ?_
      refine de rfl (e_iaddrI h0 1 rfl g_24 rfl rfl g_34) ?_
      refine dz ?_
      refine stI (c := cI .u16) (v' := (if v_31 > v_27 then v_31 else v_27)) hs 0 1 rfl rfl rfl rfl g_24 g_34 (cI_len .u16) ((cI_one .u16) _) rfl rfl fun st hs => ?_
      refine rn 3 rfl ?_
      exact ih (.p3 a b i (IntKind.wrap .i64 (k - 1)) (List.set t (Int.toNat i) (vset v_23 k (if v_31 > v_27 then v_31 else v_27)))) _ hF K Ls hK _ _ io0 io1 ⟨rfl, rfl, (show AV.row io0 1 0 t.length = AV.row io0 1 0 (List.set t (Int.toNat i) (vset v_23 k (if v_31 > v_27 then v_31 else v_27))).length by simp only [List.length_set]), rfl, rfl, trivial⟩ hs
  · refine rn 3 rfl ?_
    exact ih (.p2 a b (IntKind.wrap .i64 (i - 1)) t) _ hF K Ls hK _ _ io0 io1 ⟨rfl, rfl, rfl, rfl, trivial⟩ hs
noncomputable def F51 (a : Sl T25) (b : Sl T25) : Option (List (Sl Int)) :=
 (if 0 ≤ (IntKind.wrap .i64 (((ls a).length : Int) + 1)) ∧ (IntKind.wrap .i64 (((ls a).length : Int) + 1)) = (IntKind.wrap .i64 (((ls a).length : Int) + 1)) ∧ (24 : Int) * (IntKind.wrap .i64 (((ls a).length : Int) + 1)) ≤ 281474976710656 then
  (G51 (.p1 a b (((List.replicate (Int.toNat (IntKind.wrap .i64 (((ls a).length : Int) + 1))) (none : Sl Int))).length : Int) 0 (List.replicate (Int.toNat (IntKind.wrap .i64 (((ls a).length : Int) + 1))) (none : Sl Int))))
 else none)
theorem d51 (a : Sl T25) (b : Sl T25) (r : List (Sl Int)) (hF : F51 a b = some r) : ∀ (K : AV → Store → Prop) (Ls : List Asn) (st : Store), SH st Ls → (∀ st id ids, SH st (pt id (.cells (rrC 1 ids r)) :: rrB (cI .u16) ids r :: Ls) → K (.row id 1 0 r.length) st) → XCall Tryd.prog gE 51 [slV 2 v25 a, slV 2 v25 b] st K := by
 unfold F51 at hF
 intro K Ls st hs hK
 refine bK k51 rfl ?_
 refine rn 2 rfl ?_
 refine W.o (e_len (rd_V rfl)) ?_
 obtain ⟨g_2, hF⟩ := grd_some hF
 refine rn 1 rfl ?_
 refine mkRR (α := Int) (cI .u16) 1 hs rfl rfl rfl g_2 fun st b_1 b_1s hs => ?_
 refine rn 2 rfl ?_
 refine W.o (e_lenR rfl (hs.g 0 rfl)) ?_
 refine rn 1 rfl ?_
 exact w51 (.p1 a b (((List.replicate (Int.toNat (IntKind.wrap .i64 (((ls a).length : Int) + 1))) (none : Sl Int))).length : Int) 0 (List.replicate (Int.toNat (IntKind.wrap .i64 (((ls a).length : Int) + 1))) (none : Sl Int))) _ hF K Ls hK _ _ b_1 b_1s ⟨rfl, rfl, rfl, rfl, rfl, trivial⟩ hs
/-! ### 52: paddock/paddockref01.most -/
def C52_24 : ACode := .s (.s (.ops [q 28 (.mv 7), q 29 (.binI .geq 28 (ki 0))]) (.cond 29 .skip (.exit 2))) (.s (.block 3 (.s (.s (.ops [q 32 (.mv 6), q 33 (.mv 0), q 34 (.len 33), q 35 (.binI .eql 32 34)]) (.cond 35 (.exit 3) .skip)) (.s (.draw [] 0 0 [q 36 (.mv 5), q 37 (.mv 6), q 38 (.iaddrL 1 36 37), q 39 (.load1 38), q 40 (.mv 7), q 41 (.mv 5), q 42 (.mv 6), q 43 (.binI .add 42 (ki 1)), q 44 (.iaddrL 1 41 43), q 45 (.load1 44), q 46 (.mv 7), q 47 (.iaddrL 1 45 46), q 48 (.load1 47), q 49 (.mv 5), q 50 (.mv 6), q 51 (.iaddrL 1 49 50), q 52 (.load1 51), q 53 (.mv 7), q 54 (.binI .add 53 (ki 1)), q 55 (.iaddrL 1 52 54), q 56 (.load1 55), q 57 (.max [48, 56]), q 58 (.iaddrL 1 39 40)] [q0 (.store 1 58 57)]) (.s (.draw [] 0 0 [q 59 (.mv 0), q 60 (.mv 6), q 61 (.iaddrL 2 59 60), q 62 (.loadN 2 61), q 63 (.mv 1), q 64 (.mv 7), q 65 (.iaddrL 2 63 64), q 66 (.loadN 2 65), q 67 (.eqA false [.s, .b] 62 66)] []) (.cond 67 (.draw [] 0 0 [q 68 (.mv 5), q 69 (.mv 6), q 70 (.iaddrL 1 68 69), q 71 (.load1 70), q 72 (.mv 7), q 73 (.mv 5), q 74 (.mv 6), q 75 (.iaddrL 1 73 74), q 76 (.load1 75), q 77 (.mv 7), q 78 (.iaddrL 1 76 77), q 79 (.load1 78), q 80 (.mv 5), q 81 (.mv 6), q 82 (.binI .add 81 (ki 1)), q 83 (.iaddrL 1 80 82), q 84 (.load1 83), q 85 (.mv 7), q 86 (.binI .add 85 (ki 1)), q 87 (.iaddrL 1 84 86), q 88 (.load1 87), q 89 (.binI .add 88 (ki 1)), q 90 (.max [79, 89]), q 91 (.iaddrL 1 71 72)] [q0 (.store 1 91 90)]) .skip))))) (.ops [q 30 (.mv 7), q 31 (.binI .sub 30 (ki 1)), q 7 (.mv 31)]))
def C52_46 : ACode := .ops [q 16 (.mv 6), q 17 (.binI .sub 16 (ki 1)), q 6 (.mv 17)]
def C52_10 : ACode := .s (.s (.ops [q 14 (.mv 6), q 15 (.binI .geq 14 (ki 0))]) (.cond 15 .skip (.exit 0))) (.s (.block 1 (.s (.ops [q 18 (.mv 5), q 19 (.mv 6), q 20 (.mv 1), q 21 (.len 20), q 22 (.binI .add 21 (ki 1)), q 23 (.mkslice 1 8 [(.int .i64 0)] 22 22 true), q 24 (.iaddrL 1 18 19), q0 (.store 1 24 23)]) (.s (.ops [q 25 (.mv 1), q 26 (.len 25), q 27 (.binI .sub 26 (ki 1)), q 7 (.mv 27)]) (.block 2 (.loop C52_24))))) C52_46)
def C52_47 : ACode := .s (.ops [q 92 (.mv 5), q 4 (.mv 92)]) .ret
def C52_1 : ACode := .s (.ops [q 4 (.mv (.c .nils))]) (.s (.ops [q 8 (.mv 0), q 9 (.len 8), q 10 (.binI .add 9 (ki 1)), q 11 (.mkslice 1 24 [.nils] 10 10 true), q 5 (.mv 11)]) (.s (.s (.ops [q 12 (.mv 0), q 13 (.len 12), q 6 (.mv 13)]) (.block 0 (.loop C52_10))) C52_47))
def R52 : List RA := [(.tmp 4)]
theorem k52 : compF Tryd.prog (muL [11, 23]) 52 = some ⟨93, C52_1, R52⟩ := by kernel_rfl
noncomputable abbrev X52 (K : AV → Store → Prop) : Cx := cK Tryd.prog gE 93 R52 K [11, 23]
inductive St52 where
 | p1 (a : Sl T25) (b : Sl T25) (i : Int) (out : List (Sl Int))
 | p2 (a : Sl T25) (b : Sl T25) (i : Int) (k : Int) (out : List (Sl Int))
noncomputable def G52 : St52 → Option (List (Sl Int))
 | .p1 a b i out =>
  (if (decide (i ≥ 0)) = true then
   (if 0 ≤ (IntKind.wrap .i64 (((ls b).length : Int) + 1)) ∧ (IntKind.wrap .i64 (((ls b).length : Int) + 1)) = (IntKind.wrap .i64 (((ls b).length : Int) + 1)) ∧ (8 : Int) * (IntKind.wrap .i64 (((ls b).length : Int) + 1)) ≤ 281474976710656 then
    (ix out i >>= fun v_6 =>
     (G52 (.p2 a b i (IntKind.wrap .i64 (((ls b).length : Int) - 1)) (List.set out (Int.toNat i) (some (List.replicate (Int.toNat (IntKind.wrap .i64 (((ls b).length : Int) + 1))) (0 : Int)))))))
   else none)
  else
   (some out))
 | .p2 a b i k out =>
  (if (decide (k ≥ 0)) = true then
   (if (i == ((ls a).length : Int)) = true then
    (G52 (.p2 a b i (IntKind.wrap .i64 (k - 1)) out))
   else
    (ix out i >>= fun v_10 =>
     (ix out (IntKind.wrap .i64 (i + 1)) >>= fun v_12 =>
      (ix (ls v_12) k >>= fun v_14 =>
       (ix out i >>= fun v_16 =>
        (ix (ls v_16) (IntKind.wrap .i64 (k + 1)) >>= fun v_18 =>
         (ix (ls v_10) k >>= fun v_20 =>
          (ix (ls a) i >>= fun v_22 =>
           (ix (ls b) k >>= fun v_24 =>
            (if (decide (v_22 = v_24)) = true then
             (ix (List.set out (Int.toNat i) (vset v_10 k (if v_18 > v_14 then v_18 else v_14))) i >>= fun v_27 =>
              (ix (List.set out (Int.toNat i) (vset v_10 k (if v_18 > v_14 then v_18 else v_14))) i >>= fun v_29 =>
               (ix (ls v_29) k >>= fun v_31 =>
                (ix (List.set out (Int.toNat i) (vset v_10 k (if v_18 > v_14 then v_18 else v_14))) (IntKind.wrap .i64 (i + 1)) >>= fun v_33 =>
                 (ix (ls v_33) (IntKind.wrap .i64 (k + 1)) >>= fun v_35 =>
                  (ix (ls v_27) k >>= fun v_37 =>
                   (G52 (.p2 a b i (IntKind.wrap .i64 (k - 1)) (List.set (List.set out (Int.toNat i) (vset v_10 k (if v_18 > v_14 then v_18 else v_14))) (Int.toNat i) (vset v_27 k (if (IntKind.wrap .i64 (v_35 + 1)) > v_31 then (IntKind.wrap .i64 (v_35 + 1)) else v_31)))))))))))
            else
             (G52 (.p2 a b i (IntKind.wrap .i64 (k - 1)) (List.set out (Int.toNat i) (vset v_10 k (if v_18 > v_14 then v_18 else v_14)))))))))))))))
  else
   (G52 (.p1 a b (IntKind.wrap .i64 (i - 1)) out)))
 partial_fixpoint
def M52 (x : St52) (r : List (Sl Int)) : Prop := match x with
 | .p1 a b i out => ∀ (K : AV → Store → Prop) (Ls : List Asn), (∀ st id ids, SH st (pt id (.cells (rrC 1 ids r)) :: rrB (cI .i64) ids r :: Ls) → K (.row id 1 0 r.length) st) → ∀ (tm : Fr) (st : Store) (io0 : Nat) (io1 : List Nat), Frm tm [(0, slV 2 v25 a), (1, slV 2 v25 b), (5, .row io0 1 0 out.length), (6, AV.int .i64 i)] → SH st (pt io0 (.cells (rrC 1 io1 out)) :: rrB (cI .i64) io1 out :: Ls) → W (X52 K) [.lp C52_10, .blk 0, .code C52_47] tm st
 | .p2 a b i k out => ∀ (K : AV → Store → Prop) (Ls : List Asn), (∀ st id ids, SH st (pt id (.cells (rrC 1 ids r)) :: rrB (cI .i64) ids r :: Ls) → K (.row id 1 0 r.length) st) → ∀ (tm : Fr) (st : Store) (io0 : Nat) (io1 : List Nat), Frm tm [(0, slV 2 v25 a), (1, slV 2 v25 b), (5, .row io0 1 0 out.length), (6, AV.int .i64 i), (7, AV.int .i64 k)] → SH st (pt io0 (.cells (rrC 1 io1 out)) :: rrB (cI .i64) io1 out :: Ls) → W (X52 K) [.lp C52_24, .blk 2, .blk 1, .code C52_46, .lp C52_10, .blk 0, .code C52_47] tm st
theorem w52 : ∀ (x : St52) (r : List (Sl Int)), G52 x = some r → M52 x r := by
 refine G52.partial_correctness M52 ?_
 intro g ih x r hF
 cases x with
 | p1 a b i out =>
  dsimp only at hF
  intro K Ls hK tm st io0 io1 hf hs
  refine en hf ?_
  refine lp ?_
  refine rn 2 rfl ?_
  refine ci hF rfl (fun c_3 hF => ?_) (fun c_3 hF => ?_)
  · refine rn 3 rfl ?_
    refine W.o (e_len (rd_V rfl)) ?_
    obtain ⟨g_5, hF⟩ := grd_some hF
    refine rn 1 rfl ?_
    refine mkV (c := cI .i64) (0 : Int) hs rfl rfl rfl g_5 fun st b_4 hs => ?_
    obtain ⟨v_6, g_7, hF⟩ := bind_some hF
    refine W.o (e_iaddrO rfl (hs.g 1 rfl) rfl g_7) ?_
    refine stO hs 0 rfl 0 1 rfl rfl rfl rfl rfl g_7 rfl rfl fun st hs => ?_
    refine rn 1 rfl ?_
    refine W.o (e_len (rd_V rfl)) ?_
    refine rn 2 rfl ?_
    exact ih (.p2 a b i (IntKind.wrap .i64 (((ls b).length : Int) - 1)) (List.set out (Int.toNat i) (some (List.replicate (Int.toNat (IntKind.wrap .i64 (((ls b).length : Int) + 1))) (0 : Int))))) _ hF K Ls hK _ _ io0 (List.set io1 (Int.toNat i) b_4) ⟨rfl, rfl, (show AV.row io0 1 0 out.length = AV.row io0 1 0 (List.set out (Int.toNat i) (some (List.replicate (Int.toNat (IntKind.wrap .i64 (((ls b).length : Int) + 1))) (0 : Int)))).length by simp only [List.length_set]), rfl, rfl, trivial⟩ hs
  · refine rn 2 rfl ?_
    cases hF
    exact rK (rlt rl0) (hK _ _ _ (hs.p 2 [0, 0] rfl)) rfl
 | p2 a b i k out =>
  dsimp only at hF
  intro K Ls hK tm st io0 io1 hf hs
  refine en hf ?_
  refine lp ?_
  refine rn 2 rfl ?_
  refine ci hF rfl (fun c_8 hF => ?_) (fun c_8 hF => ?_)
  · refine rn 2 rfl ?_
    refine W.o (e_len (rd_V rfl)) ?_
    refine rn 1 rfl ?_
    refine ci hF rfl (fun c_9 hF => ?_) (fun c_9 hF => ?_)
    · refine rn 3 rfl ?_
      exact ih (.p2 a b i (IntKind.wrap .i64 (k - 1)) out) _ hF K Ls hK _ _ io0 io1 ⟨rfl, rfl, rfl, rfl, rfl, trivial⟩ hs
    · refine rn 0 rfl ?_
      have h0 := hs
      refine dr0 ?_
      obtain ⟨v_10, g_11, hF⟩ := bind_some hF
      refine dn 2 rfl ?_
      refine de rfl (e_iaddrO rfl (h0.g 0 rfl) rfl g_11) ?_
      refine de rfl (e_rr1 rfl (h0.g 0 rfl) h0 1 rfl g_11) ?_
      obtain ⟨v_12, g_13, hF⟩ := bind_some hF
      refine dn 4 rfl ?_
      refine de rfl (e_iaddrO rfl (h0.g 0 rfl) rfl g_13) ?_
      refine de rfl (e_rr1 rfl (h0.g 0 rfl) h0 1 rfl g_13) ?_
      obtain ⟨v_14, g_15, hF⟩ := bind_some hF
      refine dn 1 rfl ?_
      refine de rfl (e_iaddrI h0 1 rfl g_13 rfl rfl g_15) ?_
      refine de rfl (e_load1 rfl (SH.rrG h0 1 rfl g_13 g_15) (lrV_get (cI_len .i64) g_15)) ?_
      obtain ⟨v_16, g_17, hF⟩ := bind_some hF
      refine dn 2 rfl ?_
      refine de rfl (e_iaddrO rfl (h0.g 0 rfl) rfl g_17) ?_
      refine de rfl (e_rr1 rfl (h0.g 0 rfl) h0 1 rfl g_17) ?_
      obtain ⟨v_18, g_19, hF⟩ := bind_some hF
      refine dn 2 rfl ?_
      refine de rfl (e_iaddrI h0 1 rfl g_17 rfl rfl g_19) ?_
      refine de rfl (e_load1 rfl (SH.rrG h0 1 rfl g_17 g_19) (lrV_get (cI_len .i64) g_19)) ?_
      obtain ⟨v_20, g_21, hF⟩ := bind_some hF
      refine dn 1 rfl ?_
      refine de rfl (e_iaddrI h0 1 rfl g_11 rfl rfl g_21) ?_
      refine dz ?_
      refine stI (c := cI .i64) (v' := (if v_18 > v_14 then v_18 else v_14)) hs 0 1 rfl rfl rfl rfl g_11 g_21 (cI_len .i64) ((cI_one .i64) _) rfl rfl fun st hs => ?_
      refine rn 0 rfl ?_
      have h0 := hs
      refine dr0 ?_
      obtain ⟨v_22, g_23, hF⟩ := bind_some hF
      refine dn 2 rfl ?_
      refine de rfl (e_iaddrL (rd_V rfl) rfl g_23) ?_
      refine de rfl (lND (s := c25 v_22) rfl rfl rfl) ?_
      obtain ⟨v_24, g_25, hF⟩ := bind_some hF
      refine dn 2 rfl ?_
      refine de rfl (e_iaddrL (rd_V rfl) rfl g_25) ?_
      refine de rfl (lND (s := c25 v_24) rfl rfl rfl) ?_
      refine de rfl (e_eqA rfl rfl (c25_eq v_22 v_24)) ?_
      refine dz ?_
      refine rn 0 rfl ?_
      refine ci hF rfl (fun c_26 hF => ?_) (fun c_26 hF => ?_)
      · have h0 := hs
        refine dr0 ?_
        obtain ⟨v_27, g_28, hF⟩ := bind_some hF
        refine dn 2 rfl ?_
        refine de rfl (e_iaddrO (show AV.row io0 1 0 out.length = AV.row io0 1 0 (List.set out (Int.toNat i) (vset v_10 k (if v_18 > v_14 then v_18 else v_14))).length by simp only [List.length_set]) (h0.g 0 rfl) rfl g_28) ?_
        refine de rfl (e_rr1 rfl (h0.g 0 rfl) h0 1 rfl g_28) ?_
        obtain ⟨v_29, g_30, hF⟩ := bind_some hF
        refine dn 3 rfl ?_
        refine de rfl (e_iaddrO (show AV.row io0 1 0 out.length = AV.row io0 1 0 (List.set out (Int.toNat i) (vset v_10 k (if v_18 > v_14 then v_18 else v_14))).length by simp only [List.length_set]) (h0.g 0 rfl) rfl g_30) ?_
        refine de rfl (e_rr1 rfl (h0.g 0 rfl) h0 1 rfl g_30) ?_
        obtain ⟨v_31, g_32, hF⟩ := bind_some hF
        refine dn 1 rfl ?_
        refine de rfl (e_iaddrI h0 1 rfl g_30 rfl rfl g_32) ?_
        refine de rfl (e_load1 rfl (SH.rrG h0 1 rfl g_30 g_32) (lrV_get (cI_len .i64) g_32)) ?_
        obtain ⟨v_33, g_34, hF⟩ := bind_some hF
        refine dn 3 rfl ?_
        refine de rfl (e_iaddrO (show AV.row io0 1 0 out.length = AV.row io0 1 0 (List.set out (Int.toNat i) (vset v_10 k (if v_18 > v_14 then v_18 else v_14))).length by simp only [List.length_set]) (h0.g 0 rfl) rfl g_34) ?_
        refine de rfl (e_rr1 rfl (h0.g 0 rfl) h0 1 rfl g_34) ?_
        obtain ⟨v_35, g_36, hF⟩ := bind_some hF
        refine dn 2 rfl ?_
        refine de rfl (e_iaddrI h0 1 rfl g_34 rfl rfl g_36) ?_
        refine de rfl (e_load1 rfl (SH.rrG h0 1 rfl g_34 g_36) (lrV_get (cI_len .i64) g_36)) ?_
        obtain ⟨v_37, g_38, hF⟩ := bind_some hF
        refine dn 2 rfl ?_
        refine de rfl (e_iaddrI h0 1 rfl g_28 rfl rfl g_38) ?_
        refine dz ?_
        refine stI (c := cI .i64) (v' := (if (IntKind.wrap .i64 (v_35 + 1)) > v_31 then (IntKind.wrap .i64 (v_35 + 1)) else v_31)) hs 0 1 rfl rfl rfl rfl g_28 g_38 (cI_len .i64) ((cI_one .i64) _) rfl rfl fun st hs => ?_
        refine rn 3 rfl ?_
        exact ih (.p2 a b i (IntKind.wrap .i64 (k - 1)) (List.set (List.set out (Int.toNat i) (vset v_10 k (if v_18 > v_14 then v_18 else v_14))) (Int.toNat i) (vset v_27 k (if (IntKind.wrap .i64 (v_35 + 1)) > v_31 then (IntKind.wrap .i64 (v_35 + 1)) else v_31)))) _ hF K Ls hK _ _ io0 io1 ⟨rfl, rfl, (show AV.row io0 1 0 out.length = AV.row io0 1 0 (List.set (List.set out (Int.toNat i) (vset v_10 k (if v_18 > v_14 then v_18 else v_14))) (Int.toNat i) (vset v_27 k (if (IntKind.wrap .i64 (v_35 + 1)) > v_31 then (IntKind.wrap .i64 (v_35 + 1)) else v_31))).length by simp only [List.length_set]), rfl, rfl, trivial⟩ hs
      · refine rn 3 rfl ?_
        exact ih (.p2 a b i (IntKind.wrap .i64 (k - 1)) (List.set out (Int.toNat i) (vset v_10 k (if v_18 > v_14 then v_18 else v_14)))) _ hF K Ls hK _ _ io0 io1 ⟨rfl, rfl, (show AV.row io0 1 0 out.length = AV.row io0 1 0 (List.set out (Int.toNat i) (vset v_10 k (if v_18 > v_14 then v_18 else v_14))).length by simp only [List.length_set]), rfl, rfl, trivial⟩ hs
  · refine rn 3 rfl ?_
    exact ih (.p1 a b (IntKind.wrap .i64 (i - 1)) out) _ hF K Ls hK _ _ io0 io1 ⟨rfl, rfl, rfl, rfl, trivial⟩ hs
noncomputable def F52 (a : Sl T25) (b : Sl T25) : Option (List (Sl Int)) :=
 (if 0 ≤ (IntKind.wrap .i64 (((ls a).length : Int) + 1)) ∧ (IntKind.wrap .i64 (((ls a).length : Int) + 1)) = (IntKind.wrap .i64 (((ls a).length : Int) + 1)) ∧ (24 : Int) * (IntKind.wrap .i64 (((ls a).length : Int) + 1)) ≤ 281474976710656 then
  (G52 (.p1 a b ((ls a).length : Int) (List.replicate (Int.toNat (IntKind.wrap .i64 (((ls a).length : Int) + 1))) (none : Sl Int))))
 else none)
theorem d52 (a : Sl T25) (b : Sl T25) (r : List (Sl Int)) (hF : F52 a b = some r) : ∀ (K : AV → Store → Prop) (Ls : List Asn) (st : Store), SH st Ls → (∀ st id ids, SH st (pt id (.cells (rrC 1 ids r)) :: rrB (cI .i64) ids r :: Ls) → K (.row id 1 0 r.length) st) → XCall Tryd.prog gE 52 [slV 2 v25 a, slV 2 v25 b] st K := by
 unfold F52 at hF
 intro K Ls st hs hK
 refine bK k52 rfl ?_
 refine rn 2 rfl ?_
 refine W.o (e_len (rd_V rfl)) ?_
 obtain ⟨g_2, hF⟩ := grd_some hF
 refine rn 1 rfl ?_
 refine mkRR (α := Int) (cI .i64) 1 hs rfl rfl rfl g_2 fun st b_1 b_1s hs => ?_
 refine rn 2 rfl ?_
 refine W.o (e_len (rd_V rfl)) ?_
 refine rn 1 rfl ?_
 exact w52 (.p1 a b ((ls a).length : Int) (List.replicate (Int.toNat (IntKind.wrap .i64 (((ls a).length : Int) + 1))) (none : Sl Int))) _ hF K Ls hK _ _ b_1 b_1s ⟨rfl, rfl, rfl, rfl, trivial⟩ hs
/-! ### 53: slices.Equal[[]paddock/api.Line,paddock/api.Line] -/
def C53_26 : ACode := .s (.draw [] 0 0 [q 16 (.mv 0), q 17 (.mv 5), q 18 (.iaddrL 2 16 17), q 19 (.loadN 2 18), q 20 (.mv 1), q 21 (.mv 5), q 22 (.iaddrL 2 20 21), q 23 (.loadN 2 22), q 24 (.eqA true [.s, .b] 19 23)] []) (.cond 24 (.s (.ops [q 4 (.mv (.c (.bool false)))]) .ret) .skip)
def C53_16 : ACode := .s (.ops [q 14 (.binI .lss 13 12)]) (.s (.cond 14 .skip (.exit 0)) (.s (.block 1 (.s (.ops [q 15 (.mv 13), q 5 (.mv 15)]) C53_26)) (.ops [q 25 (.binI .add 13 (ki 1)), q 13 (.mv 25)])))
def C53_34 : ACode := .s (.ops [q 4 (.mv (.c (.bool true)))]) .ret
def C53_1 : ACode := .s (.ops [q 4 (.mv (.c (.bool false)))]) (.s (.s (.ops [q 6 (.mv 0), q 7 (.len 6), q 8 (.mv 1), q 9 (.len 8), q 10 (.binI .neq 7 9)]) (.cond 10 (.s (.ops [q 4 (.mv (.c (.bool false)))]) .ret) .skip)) (.s (.s (.ops [q 11 (.mv 0), q 12 (.len 11), q 13 (.mv (ki 0))]) (.block 0 (.loop C53_16))) C53_34))
def R53 : List RA := [(.tmp 4)]
theorem k53 : compF Tryd.prog (muL []) 53 = some ⟨26, C53_1, R53⟩ := by kernel_rfl
noncomputable abbrev X53 (r : Bool) : Cx := cD Tryd.prog gE 26 R53 (AV.bool r)
inductive St53 where
 | p1 (s1_ : Sl T25) (s2_ : Sl T25) (t12_ : Int) (t13_ : Int)
noncomputable def G53 : St53 → Option Bool
 | .p1 s1_ s2_ t12_ t13_ =>
  (if (decide (t13_ < t12_)) = true then
   (ix (ls s1_) t13_ >>= fun v_3 =>
    (ix (ls s2_) t13_ >>= fun v_5 =>
     (if (!decide (v_3 = v_5)) = true then
      (some false)
     else
      (G53 (.p1 s1_ s2_ t12_ (IntKind.wrap .i64 (t13_ + 1)))))))
  else
   (some true))
 partial_fixpoint
def M53 (x : St53) (r : Bool) : Prop := match x with
 | .p1 s1_ s2_ t12_ t13_ => ∀ (tm : Fr) (st : Store), Frm tm [(0, slV 2 v25 s1_), (1, slV 2 v25 s2_), (12, AV.int .i64 t12_), (13, AV.int .i64 t13_)] → SH st [] → W (X53 r) [.lp C53_16, .blk 0, .code C53_34] tm st
theorem w53 : ∀ (x : St53) (r : Bool), G53 x = some r → M53 x r := by
 refine G53.partial_correctness M53 ?_
 intro g ih x r hF
 cases x with
 | p1 s1_ s2_ t12_ t13_ =>
  dsimp only at hF
  intro tm st hf hs
  refine en hf ?_
  refine lp ?_
  refine rn 1 rfl ?_
  refine ci hF rfl (fun c_2 hF => ?_) (fun c_2 hF => ?_)
  · refine rn 2 rfl ?_
    have h0 := hs
    refine dr0 ?_
    obtain ⟨v_3, g_4, hF⟩ := bind_some hF
    refine dn 2 rfl ?_
    refine de rfl (e_iaddrL (rd_V rfl) rfl g_4) ?_
    refine de rfl (lND (s := c25 v_3) rfl rfl rfl) ?_
    obtain ⟨v_5, g_6, hF⟩ := bind_some hF
    refine dn 2 rfl ?_
    refine de rfl (e_iaddrL (rd_V rfl) rfl g_6) ?_
    refine de rfl (lND (s := c25 v_5) rfl rfl rfl) ?_
    refine de rfl (e_neA rfl rfl (c25_eq v_3 v_5)) ?_
    refine dz ?_
    refine rn 0 rfl ?_
    refine ci hF rfl (fun c_7 hF => ?_) (fun c_7 hF => ?_)
    · refine rn 1 rfl ?_
      cases hF
      exact rD (rlt rl0) rfl
    · refine rn 2 rfl ?_
      exact ih (.p1 s1_ s2_ t12_ (IntKind.wrap .i64 (t13_ + 1))) _ hF _ _ ⟨rfl, rfl, rfl, rfl, trivial⟩ hs
  · refine rn 1 rfl ?_
    cases hF
    exact rD (rlt rl0) rfl
noncomputable def F53 (s1_ : Sl T25) (s2_ : Sl T25) : Option Bool :=
 (if (((ls s1_).length : Int) != ((ls s2_).length : Int)) = true then
  (some false)
 else
  (G53 (.p1 s1_ s2_ ((ls s1_).length : Int) 0)))
theorem d53 (s1_ : Sl T25) (s2_ : Sl T25) (r : Bool) (hF : F53 s1_ s2_ = some r) : DFun Tryd.prog gE 53 [slV 2 v25 s1_, slV 2 v25 s2_] (AV.bool r) := by
 unfold F53 at hF
 refine bD k53 rfl ?_
 have hs : SH [] [] := SH.nil
 generalize ([] : Store) = st at hs ⊢
 refine rn 2 rfl ?_
 refine W.o (e_len (rd_V rfl)) ?_
 refine rn 1 rfl ?_
 refine W.o (e_len (rd_V rfl)) ?_
 refine rn 1 rfl ?_
 refine ci hF rfl (fun c_1 hF => ?_) (fun c_1 hF => ?_)
 · refine rn 1 rfl ?_
   cases hF
   exact rD (rlt rl0) rfl
 · refine rn 1 rfl ?_
   refine W.o (e_len (rd_V rfl)) ?_
   refine rn 1 rfl ?_
   exact w53 (.p1 s1_ s2_ ((ls s1_).length : Int) 0) _ hF _ _ ⟨rfl, rfl, rfl, rfl, trivial⟩ hs
/-! ### 33: paddock/lines.Diff -/
def C33_25 : ACode := .cond 36 .skip (.exit 0)
def C33_44 : ACode := .s (.ops [q 37 (.mv 9), q 38 (.mv 7), q 39 (.mv 11), q 40 (.iaddrL 2 38 39), q 41 (.loadN 2 40), q 42 (.build [(.int .u8 0), (.str []), (.bool false)] [(0, (1, (ku 3))), (1, (2, 41))]), q 43 (.bslice 3 1 true [(.int .u8 0), (.str []), (.bool false)] [(0, (3, 42))] false), q 44 (.app 3 32 37 43), q 9 (.mv 44)]) (.ops [q 45 (.mv 11), q 46 (.binI .add 45 (ki 1)), q 11 (.mv 46)])
def C33_38 : ACode := .s (.draw [] 0 0 [q 82 (.mv 10), q 83 (.mv 6), q 84 (.len 83), q 85 (.binI .lss 82 84), q 86 (.mv 85), (q 87 (.mv 8)).y 86, (q 88 (.mv 10)).y 86, (q 89 (.binI .add 88 (ki 1))).y 86, (q 90 (.iaddrL 1 87 89)).y 86, (q 91 (.load1 90)).y 86, (q 92 (.mv 11)).y 86, (q 93 (.iaddrL 1 91 92)).y 86, (q 94 (.load1 93)).y 86, (q 95 (.mv 8)).y 86, (q 96 (.mv 10)).y 86, (q 97 (.iaddrL 1 95 96)).y 86, (q 98 (.load1 97)).y 86, (q 99 (.mv 11)).y 86, (q 100 (.iaddrL 1 98 99)).y 86, (q 101 (.load1 100)).y 86, (q 102 (.binI .eql 94 101)).y 86, q 103 (.pick 86 102 (.c (.bool false))), q 81 (.mv 103)] []) (.cond 81 (.s (.ops [q 104 (.mv 9), q 105 (.mv 6), q 106 (.mv 10), q 107 (.iaddrL 2 105 106), q 108 (.loadN 2 107), q 109 (.build [(.int .u8 0), (.str []), (.bool false)] [(0, (1, (ku 2))), (1, (2, 108))]), q 110 (.bslice 3 1 true [(.int .u8 0), (.str []), (.bool false)] [(0, (3, 109))] false), q 111 (.app 3 32 104 110), q 9 (.mv 111)]) (.ops [q 112 (.mv 10), q 113 (.binI .add 112 (ki 1)), q 10 (.mv 113)])) C33_44)
def C33_28 : ACode := .block 1 (.block 2 (.s (.draw [] 0 0 [q 48 (.mv 10), q 49 (.mv 6), q 50 (.len 49), q 51 (.binI .lss 48 50), q 52 (.mv 51), (q 53 (.mv 11)).y 52, (q 54 (.mv 7)).y 52, (q 55 (.len 54)).y 52, (q 56 (.binI .lss 53 55)).y 52, q 57 (.pick 52 56 (.c (.bool false))), q 58 (.mv 57), (q 59 (.mv 6)).y 58, (q 60 (.mv 10)).y 58, (q 61 (.iaddrL 2 59 60)).y 58, (q 62 (.loadN 2 61)).y 58, (q 63 (.mv 7)).y 58, (q 64 (.mv 11)).y 58, (q 65 (.iaddrL 2 63 64)).y 58, (q 66 (.loadN 2 65)).y 58, (q 67 (.eqA false [.s, .b] 62 66)).y 58, q 68 (.pick 58 67 (.c (.bool false))), q 47 (.mv 68)] []) (.cond 47 (.s (.ops [q 69 (.mv 9), q 70 (.mv 6), q 71 (.mv 10), q 72 (.iaddrL 2 70 71), q 73 (.loadN 2 72), q 74 (.build [(.int .u8 0), (.str []), (.bool false)] [(0, (1, (ku 1))), (1, (2, 73))]), q 75 (.bslice 3 1 true [(.int .u8 0), (.str []), (.bool false)] [(0, (3, 74))] false), q 76 (.app 3 32 69 75), q 9 (.mv 76)]) (.s (.ops [q 77 (.mv 10), q 78 (.binI .add 77 (ki 1)), q 10 (.mv 78)]) (.ops [q 79 (.mv 11), q 80 (.binI .add 79 (ki 1)), q 11 (.mv 80)]))) C33_38)))
def C33_22 : ACode := .s (.s (.ops [q 27 (.mv 10), q 28 (.mv 6), q 29 (.len 28), q 30 (.binI .lss 27 29), q 31 (.mv 30), (q 32 (.mv 11)).n 31, (q 33 (.mv 7)).n 31, (q 34 (.len 33)).n 31, (q 35 (.binI .lss 32 34)).n 31, q 36 (.pick 31 (.c (.bool true)) 35)]) C33_25) C33_28
def C33_47 : ACode := .s (.ops [q 114 (.mv 9), q 4 (.mv 114), q 5 (.mv (ki 0))]) .ret
def C33_1 : ACode := .s (.ops [q 4 (.mv (.c .nils)), q 5 (.mv (ki 0))]) (.s (.ops [q 12 (.mv 0), qc 13 14 [12], q 14 (.mv 1), qc 15 14 [14], q 6 (.mv 13), q 7 (.mv 15)]) (.s (.s (.ops [q 16 (.mv 6), q 17 (.len 16), q 18 (.binI .gtr 17 (ki 4096)), q 19 (.mv 18), (q 20 (.mv 7)).n 19, (q 21 (.len 20)).n 19, (q 22 (.binI .gtr 21 (ki 4096))).n 19, q 23 (.pick 19 (.c (.bool true)) 22)]) (.cond 23 (.s (.ops [q 4 (.mv (.c .nils)), q 5 (.mv (ki 3))]) .ret) .skip)) (.s (.ops [q 24 (.mv 6), q 25 (.mv 7), qc 26 51 [24, 25], q 8 (.mv 26)]) (.s (.ops [q 9 (.mv (.c .nils))]) (.s (.ops [q 10 (.mv (ki 0)), q 11 (.mv (ki 0))]) (.s (.block 0 (.loop C33_22)) C33_47))))))
def R33 : List RA := [(.tmp 4), (.tmp 5)]
theorem k33 : compF Tryd.prog (muL []) 33 = some ⟨115, C33_1, R33⟩ := by kernel_rfl
noncomputable abbrev X33 (r : Sl T54 × Int) : Cx := cD Tryd.prog gE 115 R33 (AV.tup [slV 3 v54 r.1, AV.int .i64 r.2])
inductive St33 where
 | p1 (x_ : Sl T25) (y : Sl T25) (i : Int) (k : Int) (t : List (Sl Int)) (out : Sl T54)
 | p2 (x_ : Sl T25) (y : Sl T25) (i : Int) (k : Int) (t : List (Sl Int)) (out : Sl T54)
 | p3 (x_ : Sl T25) (y : Sl T25) (i : Int) (k : Int) (t : List (Sl Int)) (out : Sl T54)
 | p4 (x_ : Sl T25) (y : Sl T25) (i : Int) (k : Int) (t : List (Sl Int)) (out : Sl T54)
noncomputable def G33 : St33 → Option (Sl T54 × Int)
 | .p1 x_ y i k t out =>
  (if (decide (i < ((ls x_).length : Int))) = true then
   (G33 (.p2 x_ y i k t out))
  else
   (if (decide (k < ((ls y).length : Int))) = true then
    (G33 (.p2 x_ y i k t out))
   else
    (some (out, 0))))
 | .p2 x_ y i k t out =>
  (if (decide (i < ((ls x_).length : Int))) = true then
   (if (decide (k < ((ls y).length : Int))) = true then
    (ix (ls x_) i >>= fun v_15 =>
     (ix (ls y) k >>= fun v_17 =>
      (if (decide (v_15 = v_17)) = true then
       (ix (ls x_) i >>= fun v_20 =>
        (if ((ls out).length + (ls (some ([({ Kind := 1, Line := v_20 } : T54)] : List T54))).length) * 32 ≤ 140737488355328 then
         (G33 (.p1 x_ y (IntKind.wrap .i64 (i + 1)) (IntKind.wrap .i64 (k + 1)) t (sapp out (ls (some ([({ Kind := 1, Line := v_20 } : T54)] : List T54))))))
        else none))
      else
       (G33 (.p3 x_ y i k t out)))))
   else
    (G33 (.p3 x_ y i k t out)))
  else
   (G33 (.p3 x_ y i k t out)))
 | .p3 x_ y i k t out =>
  (if (decide (i < ((ls x_).length : Int))) = true then
   (ix t (IntKind.wrap .i64 (i + 1)) >>= fun v_26 =>
    (ix (ls v_26) k >>= fun v_28 =>
     (ix t i >>= fun v_30 =>
      (ix (ls v_30) k >>= fun v_32 =>
       (if (v_28 == v_32) = true then
        (ix (ls x_) i >>= fun v_35 =>
         (if ((ls out).length + (ls (some ([({ Kind := 2, Line := v_35 } : T54)] : List T54))).length) * 32 ≤ 140737488355328 then
          (G33 (.p1 x_ y (IntKind.wrap .i64 (i + 1)) k t (sapp out (ls (some ([({ Kind := 2, Line := v_35 } : T54)] : List T54))))))
         else none))
       else
        (G33 (.p4 x_ y i k t out)))))))
  else
   (G33 (.p4 x_ y i k t out)))
 | .p4 x_ y i k t out =>
  (ix (ls y) k >>= fun v_40 =>
   (if ((ls out).length + (ls (some ([({ Kind := 3, Line := v_40 } : T54)] : List T54))).length) * 32 ≤ 140737488355328 then
    (G33 (.p1 x_ y i (IntKind.wrap .i64 (k + 1)) t (sapp out (ls (some ([({ Kind := 3, Line := v_40 } : T54)] : List T54))))))
   else none))
 partial_fixpoint
def M33 (x : St33) (r : Sl T54 × Int) : Prop := match x with
 | .p1 x_ y i k t out => ∀ (tm : Fr) (st : Store) (io0 : Nat) (io1 : List Nat) (io2 : Nat), Frm tm [(6, slV 2 v25 x_), (7, slV 2 v25 y), (8, .row io0 1 0 t.length), (9, ownV 3 v54 out io2), (10, AV.int .i64 i), (11, AV.int .i64 k)] → SH st [pt io0 (.cells (rrC 1 io1 t)), rrB (cI .u16) io1 t, ownA io2 out] → W (X33 r) [.lp C33_22, .blk 0, .code C33_47] tm st
 | .p2 x_ y i k t out => ∀ (tm : Fr) (st : Store) (io0 : Nat) (io1 : List Nat) (io2 : Nat), Frm tm [(6, slV 2 v25 x_), (7, slV 2 v25 y), (8, .row io0 1 0 t.length), (9, ownV 3 v54 out io2), (10, AV.int .i64 i), (11, AV.int .i64 k)] → SH st [pt io0 (.cells (rrC 1 io1 t)), rrB (cI .u16) io1 t, ownA io2 out] → W (X33 r) [.code C33_28, .lp C33_22, .blk 0, .code C33_47] tm st
 | .p3 x_ y i k t out => ∀ (tm : Fr) (st : Store) (io0 : Nat) (io1 : List Nat) (io2 : Nat), Frm tm [(6, slV 2 v25 x_), (7, slV 2 v25 y), (8, .row io0 1 0 t.length), (9, ownV 3 v54 out io2), (10, AV.int .i64 i), (11, AV.int .i64 k)] → SH st [pt io0 (.cells (rrC 1 io1 t)), rrB (cI .u16) io1 t, ownA io2 out] → W (X33 r) [.code C33_38, .blk 2, .blk 1, .lp C33_22, .blk 0, .code C33_47] tm st
 | .p4 x_ y i k t out => ∀ (tm : Fr) (st : Store) (io0 : Nat) (io1 : List Nat) (io2 : Nat), Frm tm [(6, slV 2 v25 x_), (7, slV 2 v25 y), (8, .row io0 1 0 t.length), (9, ownV 3 v54 out io2), (10, AV.int .i64 i), (11, AV.int .i64 k)] → SH st [pt io0 (.cells (rrC 1 io1 t)), rrB (cI .u16) io1 t, ownA io2 out] → W (X33 r) [.code C33_44, .blk 2, .blk 1, .lp C33_22, .blk 0, .code C33_47] tm st
theorem w33 : ∀ (x : St33) (r : Sl T54 × Int), G33 x = some r → M33 x r := by
 refine G33.partial_correctness M33 ?_
 intro g ih x r hF
 cases x with
 | p1 x_ y i k t out =>
  dsimp only at hF
  intro tm st io0 io1 io2 hf hs
  refine en hf ?_
  refine lp ?_
  refine rn 2 rfl ?_
  refine W.o (e_len (rd_V rfl)) ?_
  refine rn 2 rfl ?_
  refine bi hF (fun c_11 hF => ?_) (fun c_11 hF => ?_)
  · refine wfx 31 rfl c_11 ?_
    refine rn 5 rfl ?_
    refine ct rfl rfl ?_
    refine rj 0 1 rfl ?_
    exact ih (.p2 x_ y i k t out) _ hF _ _ io0 io1 io2 ⟨rfl, rfl, rfl, rfl, rfl, rfl, trivial⟩ hs
  · refine wfx 31 rfl c_11 ?_
    refine rn 2 rfl ?_
    refine W.on rfl rfl ?_
    refine W.o (e_len (rd_V rfl)) ?_
    refine rn 2 rfl ?_
    refine ci hF rfl (fun c_12 hF => ?_) (fun c_12 hF => ?_)
    · refine rj 0 1 rfl ?_
      exact ih (.p2 x_ y i k t out) _ hF _ _ io0 io1 io2 ⟨rfl, rfl, rfl, rfl, rfl, rfl, trivial⟩ hs
    · refine rn 3 rfl ?_
      cases hF
      exact rD' (rlt (rlt rl0)) (ds_tup (dsl_cons dsw (dsl_cons (dsv (v := AV.int .i64 0)) dsl_nil)))
 | p2 x_ y i k t out =>
  dsimp only at hF
  intro tm st io0 io1 io2 hf hs
  refine en hf ?_
  refine rn 0 rfl ?_
  have h0 := hs
  refine dr0 ?_
  refine dn 2 rfl ?_
  refine de rfl (e_len (rd_V rfl)) ?_
  refine dn 2 rfl ?_
  refine bi hF (fun c_13 hF => ?_) (fun c_13 hF => ?_)
  · refine dfx 52 rfl c_13 ?_
    refine dn 2 rfl ?_
    refine don rfl rfl ?_
    refine de rfl (e_len (rd_V rfl)) ?_
    refine dn 3 rfl ?_
    refine bi hF (fun c_14 hF => ?_) (fun c_14 hF => ?_)
    · refine dfx 58 rfl c_14 ?_
      obtain ⟨v_15, g_16, hF⟩ := bind_some hF
      refine dn 2 rfl ?_
      refine don rfl rfl ?_
      refine de rfl (e_iaddrL (rd_V rfl) rfl g_16) ?_
      refine don rfl rfl ?_
      refine de rfl (lND (s := c25 v_15) rfl rfl rfl) ?_
      obtain ⟨v_17, g_18, hF⟩ := bind_some hF
      refine dn 2 rfl ?_
      refine don rfl rfl ?_
      refine de rfl (e_iaddrL (rd_V rfl) rfl g_18) ?_
      refine don rfl rfl ?_
      refine de rfl (lND (s := c25 v_17) rfl rfl rfl) ?_
      refine don rfl rfl ?_
      refine de rfl (e_eqA rfl rfl (c25_eq v_15 v_17)) ?_
      refine dn 2 rfl ?_
      refine dz ?_
      refine rn 0 rfl ?_
      refine ci hF rfl (fun c_19 hF => ?_) (fun c_19 hF => ?_)
      · obtain ⟨v_20, g_21, hF⟩ := bind_some hF
        refine rn 3 rfl ?_
        refine W.o (e_iaddrL (rd_V rfl) rfl g_21) ?_
        refine W.o (lND (s := c25 v_20) rfl rfl rfl) ?_
        refine W.o (bR (cs := c54 ({ Kind := 1, Line := v_20 } : T54)) rfl rfl) ?_
        refine bs (f := v54) ([({ Kind := 1, Line := v_20 } : T54)] : List T54) hs rfl rfl rfl rfl fun st b_22 hs => ?_
        obtain ⟨g_23, hF⟩ := grd_some hF
        refine ap (ys := ls (some ([({ Kind := 1, Line := v_20 } : T54)] : List T54))) hs 3 rfl rfl (ae_rd (rd_W (o := (some ([({ Kind := 1, Line := v_20 } : T54)] : List T54))) (id := b_22) rfl)) g_23 (fun _ => rfl) fun st b_24 hs => ?_
        refine rn 7 rfl ?_
        exact ih (.p1 x_ y (IntKind.wrap .i64 (i + 1)) (IntKind.wrap .i64 (k + 1)) t (sapp out (ls (some ([({ Kind := 1, Line := v_20 } : T54)] : List T54))))) _ hF _ _ io0 io1 b_24 ⟨rfl, rfl, rfl, rfl, rfl, rfl, trivial⟩ (hs.p 4 [1, 1, 1] rfl)
      · exact ih (.p3 x_ y i k t out) _ hF _ _ io0 io1 io2 ⟨rfl, rfl, rfl, rfl, rfl, rfl, trivial⟩ hs
    · refine dfx 58 rfl c_14 ?_
      refine dn 11 rfl ?_
      refine dz ?_
      refine rn 0 rfl ?_
      refine cf rfl rfl ?_
      exact ih (.p3 x_ y i k t out) _ hF _ _ io0 io1 io2 ⟨rfl, rfl, rfl, rfl, rfl, rfl, trivial⟩ hs
  · refine dfx 52 rfl c_13 ?_
    refine dn 17 rfl ?_
    refine dz ?_
    refine rn 0 rfl ?_
    refine cf rfl rfl ?_
    exact ih (.p3 x_ y i k t out) _ hF _ _ io0 io1 io2 ⟨rfl, rfl, rfl, rfl, rfl, rfl, trivial⟩ hs
 | p3 x_ y i k t out =>
  dsimp only at hF
  intro tm st io0 io1 io2 hf hs
  refine en hf ?_
  refine rn 0 rfl ?_
  have h0 := hs
  refine dr0 ?_
  refine dn 2 rfl ?_
  refine de rfl (e_len (rd_V rfl)) ?_
  refine dn 2 rfl ?_
  refine bi hF (fun c_25 hF => ?_) (fun c_25 hF => ?_)
  · refine dfx 86 rfl c_25 ?_
    obtain ⟨v_26, g_27, hF⟩ := bind_some hF
    refine dn 3 rfl ?_
    refine don rfl rfl ?_
    refine de rfl (e_iaddrO rfl (h0.g 0 rfl) rfl g_27) ?_
    refine don rfl rfl ?_
    refine de rfl (e_rr1 rfl (h0.g 0 rfl) h0 1 rfl g_27) ?_
    obtain ⟨v_28, g_29, hF⟩ := bind_some hF
    refine dn 1 rfl ?_
    refine don rfl rfl ?_
    refine de rfl (e_iaddrI h0 1 rfl g_27 rfl rfl g_29) ?_
    refine don rfl rfl ?_
    refine de rfl (e_load1 rfl (SH.rrG h0 1 rfl g_27 g_29) (lrV_get (cI_len .u16) g_29)) ?_
    obtain ⟨v_30, g_31, hF⟩ := bind_some hF
    refine dn 2 rfl ?_
    refine don rfl rfl ?_
    refine de rfl (e_iaddrO rfl (h0.g 0 rfl) rfl g_31) ?_
    refine don rfl rfl ?_
    refine de rfl (e_rr1 rfl (h0.g 0 rfl) h0 1 rfl g_31) ?_
    obtain ⟨v_32, g_33, hF⟩ := bind_some hF
    refine dn 1 rfl ?_
    refine don rfl rfl ?_
    refine de rfl (e_iaddrI h0 1 rfl g_31 rfl rfl g_33) ?_
    refine don rfl rfl ?_
    refine de rfl (e_load1 rfl (SH.rrG h0 1 rfl g_31 g_33) (lrV_get (cI_len .u16) g_33)) ?_
    refine dn 3 rfl ?_
    refine dz ?_
    refine rn 0 rfl ?_
    refine ci hF rfl (fun c_34 hF => ?_) (fun c_34 hF => ?_)
    · obtain ⟨v_35, g_36, hF⟩ := bind_some hF
      refine rn 3 rfl ?_
      refine W.o (e_iaddrL (rd_V rfl) rfl g_36) ?_
      refine W.o (lND (s := c25 v_35) rfl rfl rfl) ?_
      refine W.o (bR (cs := c54 ({ Kind := 2, Line := v_35 } : T54)) rfl rfl) ?_
      refine bs (f := v54) ([({ Kind := 2, Line := v_35 } : T54)] : List T54) hs rfl rfl rfl rfl fun st b_37 hs => ?_
      obtain ⟨g_38, hF⟩ := grd_some hF
      refine ap (ys := ls (some ([({ Kind := 2, Line := v_35 } : T54)] : List T54))) hs 3 rfl rfl (ae_rd (rd_W (o := (some ([({ Kind := 2, Line := v_35 } : T54)] : List T54))) (id := b_37) rfl)) g_38 (fun _ => rfl) fun st b_39 hs => ?_
      refine rn 4 rfl ?_
      exact ih (.p1 x_ y (IntKind.wrap .i64 (i + 1)) k t (sapp out (ls (some ([({ Kind := 2, Line := v_35 } : T54)] : List T54))))) _ hF _ _ io0 io1 b_39 ⟨rfl, rfl, rfl, rfl, rfl, rfl, trivial⟩ (hs.p 4 [1, 1, 1] rfl)
    · exact ih (.p4 x_ y i k t out) _ hF _ _ io0 io1 io2 ⟨rfl, rfl, rfl, rfl, rfl, rfl, trivial⟩ hs
  · refine dfx 86 rfl c_25 ?_
    refine dn 18 rfl ?_
    refine dz ?_
    refine rn 0 rfl ?_
    refine cf rfl rfl ?_
    exact ih (.p4 x_ y i k t out) _ hF _ _ io0 io1 io2 ⟨rfl, rfl, rfl, rfl, rfl, rfl, trivial⟩ hs
 | p4 x_ y i k t out =>
  dsimp only at hF
  intro tm st io0 io1 io2 hf hs
  refine en hf ?_
  obtain ⟨v_40, g_41, hF⟩ := bind_some hF
  refine rn 3 rfl ?_
  refine W.o (e_iaddrL (rd_V rfl) rfl g_41) ?_
  refine W.o (lND (s := c25 v_40) rfl rfl rfl) ?_
  refine W.o (bR (cs := c54 ({ Kind := 3, Line := v_40 } : T54)) rfl rfl) ?_
  refine bs (f := v54) ([({ Kind := 3, Line := v_40 } : T54)] : List T54) hs rfl rfl rfl rfl fun st b_42 hs => ?_
  obtain ⟨g_43, hF⟩ := grd_some hF
  refine ap (ys := ls (some ([({ Kind := 3, Line := v_40 } : T54)] : List T54))) hs 3 rfl rfl (ae_rd (rd_W (o := (some ([({ Kind := 3, Line := v_40 } : T54)] : List T54))) (id := b_42) rfl)) g_43 (fun _ => rfl) fun st b_44 hs => ?_
  refine rn 4 rfl ?_
  exact ih (.p1 x_ y i (IntKind.wrap .i64 (k + 1)) t (sapp out (ls (some ([({ Kind := 3, Line := v_40 } : T54)] : List T54))))) _ hF _ _ io0 io1 b_44 ⟨rfl, rfl, rfl, rfl, rfl, rfl, trivial⟩ (hs.p 4 [1, 1, 1] rfl)
noncomputable def F33 (a : Str) (b : Str) : Option (Sl T54 × Int) :=
 (F14 a >>= fun r_1 =>
  (F14 b >>= fun r_3 =>
   (if (decide (((ls r_1).length : Int) > 4096)) = true then
    (some (none, 3))
   else
    (if (decide (((ls r_3).length : Int) > 4096)) = true then
     (some (none, 3))
    else
     (F51 r_1 r_3 >>= fun r_7 =>
      (G33 (.p1 r_1 r_3 0 0 r_7 none)))))))
theorem d33 (a : Str) (b : Str) (r : Sl T54 × Int) (hF : F33 a b = some r) : DFun Tryd.prog gE 33 [AV.str a, AV.str b] (AV.tup [slV 3 v54 r.1, AV.int .i64 r.2]) := by
 unfold F33 at hF
 refine bD k33 rfl ?_
 have hs : SH [] [] := SH.nil
 generalize ([] : Store) = st at hs ⊢
 obtain ⟨r_1, g_2, hF⟩ := bind_some hF
 refine rn 3 rfl ?_
 refine df (dfun_own (fun st L K hs hK => d14 a _ g_2 K L st hs hK)) rfl ?_
 obtain ⟨r_3, g_4, hF⟩ := bind_some hF
 refine rn 1 rfl ?_
 refine df (dfun_own (fun st L K hs hK => d14 b _ g_4 K L st hs hK)) rfl ?_
 refine rn 3 rfl ?_
 refine W.o (e_len (rd_V rfl)) ?_
 refine rn 2 rfl ?_
 refine bi hF (fun c_5 hF => ?_) (fun c_5 hF => ?_)
 · refine wfx 19 rfl c_5 ?_
   refine rn 4 rfl ?_
   refine ct rfl rfl ?_
   refine rn 2 rfl ?_
   cases hF
   exact rD (rlt (rlt rl0)) rfl
 · refine wfx 19 rfl c_5 ?_
   refine rn 1 rfl ?_
   refine W.on rfl rfl ?_
   refine W.o (e_len (rd_V rfl)) ?_
   refine rn 2 rfl ?_
   refine ci hF rfl (fun c_6 hF => ?_) (fun c_6 hF => ?_)
   · refine rn 2 rfl ?_
     cases hF
     exact rD (rlt (rlt rl0)) rfl
   · obtain ⟨r_7, g_8, hF⟩ := bind_some hF
     refine rn 2 rfl ?_
     refine cl (ale rfl) (d51 r_1 r_3 _ g_8 _ _ _ hs fun st b_9 b_9s hs => ?_)
     refine rn 4 rfl ?_
     have hs := hs.ownNil T54
     exact w33 (.p1 r_1 r_3 0 0 r_7 none) _ hF _ _ b_9 b_9s 0 ⟨rfl, rfl, rfl, rfl, rfl, rfl, trivial⟩ (hs.p 3 [1, 1, 0] rfl)
/-! ### 34: paddock/paddockref01.Diff -/
def C34_25 : ACode := .cond 36 .skip (.exit 0)
def C34_44 : ACode := .s (.ops [q 37 (.mv 9), q 38 (.mv 7), q 39 (.mv 11), q 40 (.iaddrL 2 38 39), q 41 (.loadN 2 40), q 42 (.build [(.int .u8 0), (.str []), (.bool false)] [(0, (1, (ku 3))), (1, (2, 41))]), q 43 (.bslice 3 1 true [(.int .u8 0), (.str []), (.bool false)] [(0, (3, 42))] false), q 44 (.app 3 32 37 43), q 9 (.mv 44)]) (.ops [q 45 (.mv 11), q 46 (.binI .add 45 (ki 1)), q 11 (.mv 46)])
def C34_38 : ACode := .s (.draw [] 0 0 [q 82 (.mv 10), q 83 (.mv 6), q 84 (.len 83), q 85 (.binI .lss 82 84), q 86 (.mv 85), (q 87 (.mv 8)).y 86, (q 88 (.mv 10)).y 86, (q 89 (.binI .add 88 (ki 1))).y 86, (q 90 (.iaddrL 1 87 89)).y 86, (q 91 (.load1 90)).y 86, (q 92 (.mv 11)).y 86, (q 93 (.iaddrL 1 91 92)).y 86, (q 94 (.load1 93)).y 86, (q 95 (.mv 8)).y 86, (q 96 (.mv 10)).y 86, (q 97 (.iaddrL 1 95 96)).y 86, (q 98 (.load1 97)).y 86, (q 99 (.mv 11)).y 86, (q 100 (.iaddrL 1 98 99)).y 86, (q 101 (.load1 100)).y 86, (q 102 (.binI .eql 94 101)).y 86, q 103 (.pick 86 102 (.c (.bool false))), q 81 (.mv 103)] []) (.cond 81 (.s (.ops [q 104 (.mv 9), q 105 (.mv 6), q 106 (.mv 10), q 107 (.iaddrL 2 105 106), q 108 (.loadN 2 107), q 109 (.build [(.int .u8 0), (.str []), (.bool false)] [(0, (1, (ku 2))), (1, (2, 108))]), q 110 (.bslice 3 1 true [(.int .u8 0), (.str []), (.bool false)] [(0, (3, 109))] false), q 111 (.app 3 32 104 110), q 9 (.mv 111)]) (.ops [q 112 (.mv 10), q 113 (.binI .add 112 (ki 1)), q 10 (.mv 113)])) C34_44)
def C34_28 : ACode := .block 1 (.block 2 (.s (.draw [] 0 0 [q 48 (.mv 10), q 49 (.mv 6), q 50 (.len 49), q 51 (.binI .lss 48 50), q 52 (.mv 51), (q 53 (.mv 11)).y 52, (q 54 (.mv 7)).y 52, (q 55 (.len 54)).y 52, (q 56 (.binI .lss 53 55)).y 52, q 57 (.pick 52 56 (.c (.bool false))), q 58 (.mv 57), (q 59 (.mv 6)).y 58, (q 60 (.mv 10)).y 58, (q 61 (.iaddrL 2 59 60)).y 58, (q 62 (.loadN 2 61)).y 58, (q 63 (.mv 7)).y 58, (q 64 (.mv 11)).y 58, (q 65 (.iaddrL 2 63 64)).y 58, (q 66 (.loadN 2 65)).y 58, (q 67 (.eqA false [.s, .b] 62 66)).y 58, q 68 (.pick 58 67 (.c (.bool false))), q 47 (.mv 68)] []) (.cond 47 (.s (.ops [q 69 (.mv 9), q 70 (.mv 6), q 71 (.mv 10), q 72 (.iaddrL 2 70 71), q 73 (.loadN 2 72), q 74 (.build [(.int .u8 0), (.str []), (.bool false)] [(0, (1, (ku 1))), (1, (2, 73))]), q 75 (.bslice 3 1 true [(.int .u8 0), (.str []), (.bool false)] [(0, (3, 74))] false), q 76 (.app 3 32 69 75), q 9 (.mv 76)]) (.s (.ops [q 77 (.mv 10), q 78 (.binI .add 77 (ki 1)), q 10 (.mv 78)]) (.ops [q 79 (.mv 11), q 80 (.binI .add 79 (ki 1)), q 11 (.mv 80)]))) C34_38)))
def C34_22 : ACode := .s (.s (.ops [q 27 (.mv 10), q 28 (.mv 6), q 29 (.len 28), q 30 (.binI .lss 27 29), q 31 (.mv 30), (q 32 (.mv 11)).n 31, (q 33 (.mv 7)).n 31, (q 34 (.len 33)).n 31, (q 35 (.binI .lss 32 34)).n 31, q 36 (.pick 31 (.c (.bool true)) 35)]) C34_25) C34_28
def C34_47 : ACode := .s (.ops [q 114 (.mv 9), q 4 (.mv 114), q 5 (.mv (ki 0))]) .ret
def C34_1 : ACode := .s (.ops [q 4 (.mv (.c .nils)), q 5 (.mv (ki 0))]) (.s (.ops [q 12 (.mv 0), qc 13 16 [12], q 14 (.mv 1), qc 15 16 [14], q 6 (.mv 13), q 7 (.mv 15)]) (.s (.s (.ops [q 16 (.mv 6), q 17 (.len 16), q 18 (.binI .gtr 17 (ki 4096)), q 19 (.mv 18), (q 20 (.mv 7)).n 19, (q 21 (.len 20)).n 19, (q 22 (.binI .gtr 21 (ki 4096))).n 19, q 23 (.pick 19 (.c (.bool true)) 22)]) (.cond 23 (.s (.ops [q 4 (.mv (.c .nils)), q 5 (.mv (ki 3))]) .ret) .skip)) (.s (.ops [q 24 (.mv 6), q 25 (.mv 7), qc 26 52 [24, 25], q 8 (.mv 26)]) (.s (.ops [q 9 (.mv (.c .nils))]) (.s (.ops [q 10 (.mv (ki 0)), q 11 (.mv (ki 0))]) (.s (.block 0 (.loop C34_22)) C34_47))))))
def R34 : List RA := [(.tmp 4), (.tmp 5)]
theorem k34 : compF Tryd.prog (muL []) 34 = some ⟨115, C34_1, R34⟩ := by kernel_rfl
noncomputable abbrev X34 (r : Sl T54 × Int) : Cx := cD Tryd.prog gE 115 R34 (AV.tup [slV 3 v54 r.1, AV.int .i64 r.2])
inductive St34 where
 | p1 (a : Sl T25) (b : Sl T25) (i : Int) (k : Int) (m : List (Sl Int)) (out : Sl T54)
 | p2 (a : Sl T25) (b : Sl T25) (i : Int) (k : Int) (m : List (Sl Int)) (out : Sl T54)
 | p3 (a : Sl T25) (b : Sl T25) (i : Int) (k : Int) (m : List (Sl Int)) (out : Sl T54)
 | p4 (a : Sl T25) (b : Sl T25) (i : Int) (k : Int) (m : List (Sl Int)) (out : Sl T54)
noncomputable def G34 : St34 → Option (Sl T54 × Int)
 | .p1 a b i k m out =>
  (if (decide (i < ((ls a).length : Int))) = true then
   (G34 (.p2 a b i k m out))
  else
   (if (decide (k < ((ls b).length : Int))) = true then
    (G34 (.p2 a b i k m out))
   else
    (some (out, 0))))
 | .p2 a b i k m out =>
  (if (decide (i < ((ls a).length : Int))) = true then
   (if (decide (k < ((ls b).length : Int))) = true then
    (ix (ls a) i >>= fun v_15 =>
     (ix (ls b) k >>= fun v_17 =>
      (if (decide (v_15 = v_17)) = true then
       (ix (ls a) i >>= fun v_20 =>
        (if ((ls out).length + (ls (some ([({ Kind := 1, Line := v_20 } : T54)] : List T54))).length) * 32 ≤ 140737488355328 then
         (G34 (.p1 a b (IntKind.wrap .i64 (i + 1)) (IntKind.wrap .i64 (k + 1)) m (sapp out (ls (some ([({ Kind := 1, Line := v_20 } : T54)] : List T54))))))
        else none))
      else
       (G34 (.p3 a b i k m out)))))
   else
    (G34 (.p3 a b i k m out)))
  else
   (G34 (.p3 a b i k m out)))
 | .p3 a b i k m out =>
  (if (decide (i < ((ls a).length : Int))) = true then
   (ix m (IntKind.wrap .i64 (i + 1)) >>= fun v_26 =>
    (ix (ls v_26) k >>= fun v_28 =>
     (ix m i >>= fun v_30 =>
      (ix (ls v_30) k >>= fun v_32 =>
       (if (v_28 == v_32) = true then
        (ix (ls a) i >>= fun v_35 =>
         (if ((ls out).length + (ls (some ([({ Kind := 2, Line := v_35 } : T54)] : List T54))).length) * 32 ≤ 140737488355328 then
          (G34 (.p1 a b (IntKind.wrap .i64 (i + 1)) k m (sapp out (ls (some ([({ Kind := 2, Line := v_35 } : T54)] : List T54))))))
         else none))
       else
        (G34 (.p4 a b i k m out)))))))
  else
   (G34 (.p4 a b i k m out)))
 | .p4 a b i k m out =>
  (ix (ls b) k >>= fun v_40 =>
   (if ((ls out).length + (ls (some ([({ Kind := 3, Line := v_40 } : T54)] : List T54))).length) * 32 ≤ 140737488355328 then
    (G34 (.p1 a b i (IntKind.wrap .i64 (k + 1)) m (sapp out (ls (some ([({ Kind := 3, Line := v_40 } : T54)] : List T54))))))
   else none))
 partial_fixpoint
def M34 (x : St34) (r : Sl T54 × Int) : Prop := match x with
 | .p1 a b i k m out => ∀ (tm : Fr) (st : Store) (io0 : Nat) (io1 : List Nat) (io2 : Nat), Frm tm [(6, slV 2 v25 a), (7, slV 2 v25 b), (8, .row io0 1 0 m.length), (9, ownV 3 v54 out io2), (10, AV.int .i64 i), (11, AV.int .i64 k)] → SH st [pt io0 (.cells (rrC 1 io1 m)), rrB (cI .i64) io1 m, ownA io2 out] → W (X34 r) [.lp C34_22, .blk 0, .code C34_47] tm st
 | .p2 a b i k m out => ∀ (tm : Fr) (st : Store) (io0 : Nat) (io1 : List Nat) (io2 : Nat), Frm tm [(6, slV 2 v25 a), (7, slV 2 v25 b), (8, .row io0 1 0 m.length), (9, ownV 3 v54 out io2), (10, AV.int .i64 i), (11, AV.int .i64 k)] → SH st [pt io0 (.cells (rrC 1 io1 m)), rrB (cI .i64) io1 m, ownA io2 out] → W (X34 r) [.code C34_28, .lp C34_22, .blk 0, .code C34_47] tm st
 | .p3 a b i k m out => ∀ (tm : Fr) (st : Store) (io0 : Nat) (io1 : List Nat) (io2 : Nat), Frm tm [(6, slV 2 v25 a), (7, slV 2 v25 b), (8, .row io0 1 0 m.length), (9, ownV 3 v54 out io2), (10, AV.int .i64 i), (11, AV.int .i64 k)] → SH st [pt io0 (.cells (rrC 1 io1 m)), rrB (cI .i64) io1 m, ownA io2 out] → W (X34 r) [.code C34_38, .blk 2, .blk 1, .lp C34_22, .blk 0, .code C34_47] tm st
 | .p4 a b i k m out => ∀ (tm : Fr) (st : Store) (io0 : Nat) (io1 : List Nat) (io2 : Nat), Frm tm [(6, slV 2 v25 a), (7, slV 2 v25 b), (8, .row io0 1 0 m.length), (9, ownV 3 v54 out io2), (10, AV.int .i64 i), (11, AV.int .i64 k)] → SH st [pt io0 (.cells (rrC 1 io1 m)), rrB (cI .i64) io1 m, ownA io2 out] → W (X34 r) [.code C34_44, .blk 2, .blk 1, .lp C34_22, .blk 0, .code C34_47] tm st
theorem w34 : ∀ (x : St34) (r : Sl T54 × Int), G34 x = some r → M34 x r := by
 refine G34.partial_correctness M34 ?_
 intro g ih x r hF
 cases x with
 | p1 a b i k m out =>
  dsimp only at hF
  intro tm st io0 io1 io2 hf hs
  refine en hf ?_
  refine lp ?_
  refine rn 2 rfl ?_
  refine W.o (e_len (rd_V rfl)) ?_
  refine rn 2 rfl ?_
  refine bi hF (fun c_11 hF => ?_) (fun c_11 hF => ?_)
  · refine wfx 31 rfl c_11 ?_
    refine rn 5 rfl ?_
    refine ct rfl rfl ?_
    refine rj 0 1 rfl ?_
    exact ih (.p2 a b i k m out) _ hF _ _ io0 io1 io2 ⟨rfl, rfl, rfl, rfl, rfl, rfl, trivial⟩ hs
  · refine wfx 31 rfl c_11 ?_
    refine rn 2 rfl ?_
    refine W.on rfl rfl ?_
    refine W.o (e_len (rd_V rfl)) ?_
    refine rn 2 rfl ?_
    refine ci hF rfl (fun c_12 hF => ?_) (fun c_12 hF => ?_)
    · refine rj 0 1 rfl ?_
      exact ih (.p2 a b i k m out) _ hF _ _ io0 io1 io2 ⟨rfl, rfl, rfl, rfl, rfl, rfl, trivial⟩ hs
    · refine rn 3 rfl ?_
      cases hF
      exact rD' (rlt (rlt rl0)) (ds_tup (dsl_cons dsw (dsl_cons (dsv (v := AV.int .i64 0)) dsl_nil)))
 | p2 a b i k m out =>
  dsimp only at hF
  intro tm st io0 io1 io2 hf hs
  refine en hf ?_
  refine rn 0 rfl ?_
  have h0 := hs
  refine dr0 ?_
  refine dn 2 rfl ?_
  refine de rfl (e_len (rd_V rfl)) ?_
  refine dn 2 rfl ?_
  refine bi hF (fun c_13 hF => ?_) (fun c_13 hF => ?_)
  · refine dfx 52 rfl c_13 ?_
    refine dn 2 rfl ?_
    refine don rfl rfl ?_
    refine de rfl (e_len (rd_V rfl)) ?_
    refine dn 3 rfl ?_
    refine bi hF (fun c_14 hF => ?_) (fun c_14 hF => ?_)
    · refine dfx 58 rfl c_14 ?_
      obtain ⟨v_15, g_16, hF⟩ := bind_some hF
      refine dn 2 rfl ?_
      refine don rfl rfl ?_
      refine de rfl (e_iaddrL (rd_V rfl) rfl g_16) ?_
      refine don rfl rfl ?_
      refine de rfl (lND (s := c25 v_15) rfl rfl rfl) ?_
      obtain ⟨v_17, g_18, hF⟩ := bind_some hF
      refine dn 2 rfl ?_
      refine don rfl rfl ?_
      refine de rfl (e_iaddrL (rd_V rfl) rfl g_18) ?_
      refine don rfl rfl ?_
      refine de rfl (lND (s := c25 v_17) rfl rfl rfl) ?_
      refine don rfl rfl ?_
      refine de rfl (e_eqA rfl rfl (c25_eq v_15 v_17)) ?_
      refine dn 2 rfl ?_
      refine dz ?_
      refine rn 0 rfl ?_
      refine ci hF rfl (fun c_19 hF => ?_) (fun c_19 hF => ?_)
      · obtain ⟨v_20, g_21, hF⟩ := bind_some hF
        refine rn 3 rfl ?_
        refine W.o (e_iaddrL (rd_V rfl) rfl g_21) ?_
        refine W.o (lND (s := c25 v_20) rfl rfl rfl) ?_
        refine W.o (bR (cs := c54 ({ Kind := 1, Line := v_20 } : T54)) rfl rfl) ?_
        refine bs (f := v54) ([({ Kind := 1, Line := v_20 } : T54)] : List T54) hs rfl rfl rfl rfl fun st b_22 hs => ?_
        obtain ⟨g_23, hF⟩ := grd_some hF
        refine ap (ys := ls (some ([({ Kind := 1, Line := v_20 } : T54)] : List T54))) hs 3 rfl rfl (ae_rd (rd_W (o := (some ([({ Kind := 1, Line := v_20 } : T54)] : List T54))) (id := b_22) rfl)) g_23 (fun _ => rfl) fun st b_24 hs => ?_
        refine rn 7 rfl ?_
        exact ih (.p1 a b (IntKind.wrap .i64 (i + 1)) (IntKind.wrap .i64 (k + 1)) m (sapp out (ls (some ([({ Kind := 1, Line := v_20 } : T54)] : List T54))))) _ hF _ _ io0 io1 b_24 ⟨rfl, rfl, rfl, rfl, rfl, rfl, trivial⟩ (hs.p 4 [1, 1, 1] rfl)
      · exact ih (.p3 a b i k m out) _ hF _ _ io0 io1 io2 ⟨rfl, rfl, rfl, rfl, rfl, rfl, trivial⟩ hs
    · refine dfx 58 rfl c_14 ?_
      refine dn 11 rfl ?_
      refine dz ?_
      refine rn 0 rfl ?_
      refine cf rfl rfl ?_
      exact ih (.p3 a b i k m out) _ hF _ _ io0 io1 io2 ⟨rfl, rfl, rfl, rfl, rfl, rfl, trivial⟩ hs
  · refine dfx 52 rfl c_13 ?_
    refine dn 17 rfl ?_
    refine dz ?_
    refine rn 0 rfl ?_
    refine cf rfl rfl ?_
    exact ih (.p3 a b i k m out) _ hF _ _ io0 io1 io2 ⟨rfl, rfl, rfl, rfl, rfl, rfl, trivial⟩ hs
 | p3 a b i k m out =>
  dsimp only at hF
  intro tm st io0 io1 io2 hf hs
  refine en hf ?_
  refine rn 0 rfl ?_
  have h0 := hs
  refine dr0 ?_
  refine dn 2 rfl ?_
  refine de rfl (e_len (rd_V rfl)) ?_
  refine dn 2 rfl ?_
  refine bi hF (fun c_25 hF => ?_) (fun c_25 hF => ?_)
  · refine dfx 86 rfl c_25 ?_
    obtain ⟨v_26, g_27, hF⟩ := bind_some hF
    refine dn 3 rfl ?_
    refine don rfl rfl ?_
    refine de rfl (e_iaddrO rfl (h0.g 0 rfl) rfl g_27) ?_
    refine don rfl rfl ?_
    refine de rfl (e_rr1 rfl (h0.g 0 rfl) h0 1 rfl g_27) ?_
    obtain ⟨v_28, g_29, hF⟩ := bind_some hF
    refine dn 1 rfl ?_
    refine don rfl rfl ?_
    refine de rfl (e_iaddrI h0 1 rfl g_27 rfl rfl g_29) ?_
    refine don rfl rfl ?_
    refine de rfl (e_load1 rfl (SH.rrG h0 1 rfl g_27 g_29) (lrV_get (cI_len .i64) g_29)) ?_
    obtain ⟨v_30, g_31, hF⟩ := bind_some hF
    refine dn 2 rfl ?_
    refine don rfl rfl ?_
    refine de rfl (e_iaddrO rfl (h0.g 0 rfl) rfl g_31) ?_
    refine don rfl rfl ?_
    refine de rfl (e_rr1 rfl (h0.g 0 rfl) h0 1 rfl g_31) ?_
    obtain ⟨v_32, g_33, hF⟩ := bind_some hF
    refine dn 1 rfl ?_
    refine don rfl rfl ?_
    refine de rfl (e_iaddrI h0 1 rfl g_31 rfl rfl g_33) ?_
    refine don rfl rfl ?_
    refine de rfl (e_load1 rfl (SH.rrG h0 1 rfl g_31 g_33) (lrV_get (cI_len .i64) g_33)) ?_
    refine dn 3 rfl ?_
    refine dz ?_
    refine rn 0 rfl ?_
    refine ci hF rfl (fun c_34 hF => ?_) (fun c_34 hF => ?_)
    · obtain ⟨v_35, g_36, hF⟩ := bind_some hF
      refine rn 3 rfl ?_
      refine W.o (e_iaddrL (rd_V rfl) rfl g_36) ?_
      refine W.o (lND (s := c25 v_35) rfl rfl rfl) ?_
      refine W.o (bR (cs := c54 ({ Kind := 2, Line := v_35 } : T54)) rfl rfl) ?_
      refine bs (f := v54) ([({ Kind := 2, Line := v_35 } : T54)] : List T54) hs rfl rfl rfl rfl fun st b_37 hs => ?_
      obtain ⟨g_38, hF⟩ := grd_some hF
      refine ap (ys := ls (some ([({ Kind := 2, Line := v_35 } : T54)] : List T54))) hs 3 rfl rfl (ae_rd (rd_W (o := (some ([({ Kind := 2, Line := v_35 } : T54)] : List T54))) (id := b_37) rfl)) g_38 (fun _ => rfl) fun st b_39 hs => ?_
      refine rn 4 rfl ?_
      exact ih (.p1 a b (IntKind.wrap .i64 (i + 1)) k m (sapp out (ls (some ([({ Kind := 2, Line := v_35 } : T54)] : List T54))))) _ hF _ _ io0 io1 b_39 ⟨rfl, rfl, rfl, rfl, rfl, rfl, trivial⟩ (hs.p 4 [1, 1, 1] rfl)
    · exact ih (.p4 a b i k m out) _ hF _ _ io0 io1 io2 ⟨rfl, rfl, rfl, rfl, rfl, rfl, trivial⟩ hs
  · refine dfx 86 rfl c_25 ?_
    refine dn 18 rfl ?_
    refine dz ?_
    refine rn 0 rfl ?_
    refine cf rfl rfl ?_
    exact ih (.p4 a b i k m out) _ hF _ _ io0 io1 io2 ⟨rfl, rfl, rfl, rfl, rfl, rfl, trivial⟩ hs
 | p4 a b i k m out =>
  dsimp only at hF
  intro tm st io0 io1 io2 hf hs
  refine en hf ?_
  obtain ⟨v_40, g_41, hF⟩ := bind_some hF
  refine rn 3 rfl ?_
  refine W.o (e_iaddrL (rd_V rfl) rfl g_41) ?_
  refine W.o (lND (s := c25 v_40) rfl rfl rfl) ?_
  refine W.o (bR (cs := c54 ({ Kind := 3, Line := v_40 } : T54)) rfl rfl) ?_
  refine bs (f := v54) ([({ Kind := 3, Line := v_40 } : T54)] : List T54) hs rfl rfl rfl rfl fun st b_42 hs => ?_
  obtain ⟨g_43, hF⟩ := grd_some hF
  refine ap (ys := ls (some ([({ Kind := 3, Line := v_40 } : T54)] : List T54))) hs 3 rfl rfl (ae_rd (rd_W (o := (some ([({ Kind := 3, Line := v_40 } : T54)] : List T54))) (id := b_42) rfl)) g_43 (fun _ => rfl) fun st b_44 hs => ?_
  refine rn 4 rfl ?_
  exact ih (.p1 a b i (IntKind.wrap .i64 (k + 1)) m (sapp out (ls (some ([({ Kind := 3, Line := v_40 } : T54)] : List T54))))) _ hF _ _ io0 io1 b_44 ⟨rfl, rfl, rfl, rfl, rfl, rfl, trivial⟩ (hs.p 4 [1, 1, 1] rfl)
noncomputable def F34 (s : Str) (t : Str) : Option (Sl T54 × Int) :=
 (F16 s >>= fun r_1 =>
  (F16 t >>= fun r_3 =>
   (if (decide (((ls r_1).length : Int) > 4096)) = true then
    (some (none, 3))
   else
    (if (decide (((ls r_3).length : Int) > 4096)) = true then
     (some (none, 3))
    else
     (F52 r_1 r_3 >>= fun r_7 =>
      (G34 (.p1 r_1 r_3 0 0 r_7 none)))))))
theorem d34 (s : Str) (t : Str) (r : Sl T54 × Int) (hF : F34 s t = some r) : DFun Tryd.prog gE 34 [AV.str s, AV.str t] (AV.tup [slV 3 v54 r.1, AV.int .i64 r.2]) := by
 unfold F34 at hF
 refine bD k34 rfl ?_
 have hs : SH [] [] := SH.nil
 generalize ([] : Store) = st at hs ⊢
 obtain ⟨r_1, g_2, hF⟩ := bind_some hF
 refine rn 3 rfl ?_
 refine df (dfun_own (fun st L K hs hK => d16 s _ g_2 K L st hs hK)) rfl ?_
 obtain ⟨r_3, g_4, hF⟩ := bind_some hF
 refine rn 1 rfl ?_
 refine df (dfun_own (fun st L K hs hK => d16 t _ g_4 K L st hs hK)) rfl ?_
 refine rn 3 rfl ?_
 refine W.o (e_len (rd_V rfl)) ?_
 refine rn 2 rfl ?_
 refine bi hF (fun c_5 hF => ?_) (fun c_5 hF => ?_)
 · refine wfx 19 rfl c_5 ?_
   refine rn 4 rfl ?_
   refine ct rfl rfl ?_
   refine rn 2 rfl ?_
   cases hF
   exact rD (rlt (rlt rl0)) rfl
 · refine wfx 19 rfl c_5 ?_
   refine rn 1 rfl ?_
   refine W.on rfl rfl ?_
   refine W.o (e_len (rd_V rfl)) ?_
   refine rn 2 rfl ?_
   refine ci hF rfl (fun c_6 hF => ?_) (fun c_6 hF => ?_)
   · refine rn 2 rfl ?_
     cases hF
     exact rD (rlt (rlt rl0)) rfl
   · obtain ⟨r_7, g_8, hF⟩ := bind_some hF
     refine rn 2 rfl ?_
     refine cl (ale rfl) (d52 r_1 r_3 _ g_8 _ _ _ hs fun st b_9 b_9s hs => ?_)
     refine rn 4 rfl ?_
     have hs := hs.ownNil T54
     exact w34 (.p1 r_1 r_3 0 0 r_7 none) _ hF _ _ b_9 b_9s 0 ⟨rfl, rfl, rfl, rfl, rfl, rfl, trivial⟩ (hs.p 3 [1, 1, 0] rfl)
/-! ### 35: paddock/lines.Apply -/
def C35_34 : ACode := .s (.ops [q 32 (.faddr 0 9), q 33 (.load1 32), q 34 (.binI .neq 33 (ku 2))]) (.cond 34 (.ops [q 35 (.mv 7), q 36 (.faddr 1 9), q 37 (.loadN 2 36), q 38 (.bslice 2 1 true [(.str []), (.bool false)] [(0, (2, 37))] false), q 39 (.app 2 24 35 38), q 7 (.mv 39)]) .skip)
def C35_20 : ACode := .s (.s (.ops [q 16 (.faddr 0 9), q 17 (.load1 16), q 18 (.binI .lss 17 (ku 1)), q 19 (.mv 18), (q 20 (.faddr 0 9)).n 19, (q 21 (.load1 20)).n 19, (q 22 (.binI .gtr 21 (ku 3))).n 19, q 23 (.pick 19 (.c (.bool true)) 22)]) (.cond 23 (.s (.ops [q 4 (.mv (.c (.str []))), q 5 (.mv (ki 11))]) .ret) .skip)) (.s (.s (.ops [q 24 (.faddr 0 9), q 25 (.load1 24), q 26 (.binI .neq 25 (ku 3))]) (.cond 26 (.ops [q 27 (.mv 6), q 28 (.faddr 1 9), q 29 (.loadN 2 28), q 30 (.bslice 2 1 true [(.str []), (.bool false)] [(0, (2, 29))] false), q 31 (.app 2 24 27 30), q 6 (.mv 31)]) .skip)) C35_34)
def C35_39 : ACode := .ops [q 40 (.binI .add 12 (ki 1)), q 12 (.mv 40)]
def C35_10 : ACode := .s (.ops [q 13 (.binI .lss 12 11)]) (.s (.cond 13 .skip (.exit 0)) (.s (.block 1 (.s (.ops [q 14 (.iaddrL 3 10 12), q 15 (.loadN 3 14), q 9 (.alloc [(.int .u8 0), (.str []), (.bool false)]), q0 (.store 3 9 15)]) C35_20)) C35_39))
def C35_40 : ACode := .s (.s (.ops [q 41 (.mv 6), q 42 (.mv 0), qc 43 14 [42], qc 44 53 [41, 43], q 45 (.un .not 44)]) (.cond 45 (.s (.ops [q 4 (.mv (.c (.str []))), q 5 (.mv (ki 11))]) .ret) .skip)) (.s (.ops [q 46 (.mv 7), qc 47 19 [46], q 4 (.mv 47), q 5 (.mv (ki 0))]) .ret)
def C35_1 : ACode := .s (.ops [q 4 (.mv (.c (.str []))), q 5 (.mv (ki 0))]) (.s (.ops [q 6 (.mv (.c .nils)), q 7 (.mv (.c .nils))]) (.s (.s (.ops [q 10 (.mv 1), q 11 (.len 10), q 12 (.mv (ki 0))]) (.block 0 (.loop C35_10))) C35_40))
def R35 : List RA := [(.tmp 4), (.tmp 5)]
theorem k35 : compF Tryd.prog (muL []) 35 = some ⟨48, C35_1, R35⟩ := by kernel_rfl
noncomputable abbrev X35 (r : Str × Int) : Cx := cD Tryd.prog gE 48 R35 (AV.tup [AV.str r.1, AV.int .i64 r.2])
inductive St35 where
 | p1 (s : Str) (t10_ : Sl T54) (t11_ : Int) (t12_ : Int) (was : Sl T25) (now : Sl T25)
 | p2 (s : Str) (t10_ : Sl T54) (t11_ : Int) (t12_ : Int) (was : Sl T25) (now : Sl T25) (c : T54)
noncomputable def G35 : St35 → Option (Str × Int)
 | .p1 s t10_ t11_ t12_ was now =>
  (if (decide (t12_ < t11_)) = true then
   (ix (ls t10_) t12_ >>= fun v_4 =>
    (if (decide (v_4.Kind < 1)) = true then
     (some (([] : Str), 11))
    else
     (if (decide (v_4.Kind > 3)) = true then
      (some (([] : Str), 11))
     else
      (if (v_4.Kind != 3) = true then
       (if ((ls was).length + (ls (some ([v_4.Line] : List T25))).length) * 24 ≤ 140737488355328 then
        (G35 (.p2 s t10_ t11_ t12_ (sapp was (ls (some ([v_4.Line] : List T25)))) now v_4))
       else none)
      else
       (G35 (.p2 s t10_ t11_ t12_ was now v_4))))))
  else
   (F14 s >>= fun r_13 =>
    (F53 was r_13 >>= fun r_15 =>
     (if (!r_15) = true then
      (some (([] : Str), 11))
     else
      (F19 now >>= fun r_18 =>
       (some (r_18, 0)))))))
 | .p2 s t10_ t11_ t12_ was now c =>
  (if (c.Kind != 2) = true then
   (if ((ls now).length + (ls (some ([c.Line] : List T25))).length) * 24 ≤ 140737488355328 then
    (G35 (.p1 s t10_ t11_ (IntKind.wrap .i64 (t12_ + 1)) was (sapp now (ls (some ([c.Line] : List T25))))))
   else none)
  else
   (G35 (.p1 s t10_ t11_ (IntKind.wrap .i64 (t12_ + 1)) was now)))
 partial_fixpoint
def M35 (x : St35) (r : Str × Int) : Prop := match x with
 | .p1 s t10_ t11_ t12_ was now => ∀ (tm : Fr) (st : Store) (io0 : Nat) (io1 : Nat), Frm tm [(0, AV.str s), (6, ownV 2 v25 was io0), (7, ownV 2 v25 now io1), (10, slV 3 v54 t10_), (11, AV.int .i64 t11_), (12, AV.int .i64 t12_)] → SH st [ownA io0 was, ownA io1 now] → W (X35 r) [.lp C35_10, .blk 0, .code C35_40] tm st
 | .p2 s t10_ t11_ t12_ was now c => ∀ (tm : Fr) (st : Store) (io0 : Nat) (io1 : Nat) (io2 : Nat), Frm tm [(0, AV.str s), (6, ownV 2 v25 was io0), (7, ownV 2 v25 now io1), (9, .ptr io2 0), (10, slV 3 v54 t10_), (11, AV.int .i64 t11_), (12, AV.int .i64 t12_)] → SH st [ownA io0 was, ownA io1 now, pt io2 (.cells (c54 c))] → W (X35 r) [.code C35_34, .blk 1, .code C35_39, .lp C35_10, .blk 0, .code C35_40] tm st
theorem w35 : ∀ (x : St35) (r : Str × Int), G35 x = some r → M35 x r := by
 refine G35.partial_correctness M35 ?_
 intro g ih x r hF
 cases x with
 | p1 s t10_ t11_ t12_ was now =>
  dsimp only at hF
  intro tm st io0 io1 hf hs
  refine en hf ?_
  refine lp ?_
  refine rn 1 rfl ?_
  refine ci hF rfl (fun c_3 hF => ?_) (fun c_3 hF => ?_)
  · obtain ⟨v_4, g_5, hF⟩ := bind_some hF
    refine rn 0 rfl ?_
    refine W.o (e_iaddrL (rd_V rfl) rfl g_5) ?_
    refine W.o (lND (s := c54 v_4) rfl rfl rfl) ?_
    refine al hs (cs := c54 ({ Kind := 0, Line := ({ Text := [], Whole := false } : T25) } : T54)) rfl fun st b_6 hs => ?_
    refine sr hs 0 rfl rfl rfl (cs' := c54 v_4) rfl rfl fun st hs => ?_
    refine rn 0 rfl ?_
    refine W.o (e_faddr rfl (hs.g 0 rfl)) ?_
    refine W.o (l1 rfl (hs.g 0 rfl) rfl) ?_
    refine rn 2 rfl ?_
    refine bi hF (fun c_7 hF => ?_) (fun c_7 hF => ?_)
    · refine wfx 19 rfl c_7 ?_
      refine rn 4 rfl ?_
      refine ct rfl rfl ?_
      refine rn 2 rfl ?_
      cases hF
      exact rD (rlt (rlt rl0)) rfl
    · refine wfx 19 rfl c_7 ?_
      refine W.on rfl rfl ?_
      refine W.o (e_faddr rfl (hs.g 0 rfl)) ?_
      refine W.on rfl rfl ?_
      refine W.o (l1 rfl (hs.g 0 rfl) rfl) ?_
      refine rn 2 rfl ?_
      refine ci hF rfl (fun c_8 hF => ?_) (fun c_8 hF => ?_)
      · refine rn 2 rfl ?_
        cases hF
        exact rD (rlt (rlt rl0)) rfl
      · refine rn 0 rfl ?_
        refine W.o (e_faddr rfl (hs.g 0 rfl)) ?_
        refine W.o (l1 rfl (hs.g 0 rfl) rfl) ?_
        refine rn 1 rfl ?_
        refine ci hF rfl (fun c_9 hF => ?_) (fun c_9 hF => ?_)
        · refine rn 1 rfl ?_
          refine W.o (e_faddr rfl (hs.g 0 rfl)) ?_
          refine W.o (lN (s := c25 v_4.Line) rfl (hs.g 0 rfl) rfl rfl) ?_
          refine bs (f := v25) ([v_4.Line] : List T25) hs rfl rfl rfl rfl fun st b_10 hs => ?_
          obtain ⟨g_11, hF⟩ := grd_some hF
          refine ap (ys := ls (some ([v_4.Line] : List T25))) hs 2 rfl rfl (ae_rd (rd_W (o := (some ([v_4.Line] : List T25))) (id := b_10) rfl)) g_11 (fun _ => rfl) fun st b_12 hs => ?_
          refine rj 1 1 rfl ?_
          exact ih (.p2 s t10_ t11_ t12_ (sapp was (ls (some ([v_4.Line] : List T25)))) now v_4) _ hF _ _ b_12 io1 b_6 ⟨rfl, rfl, rfl, rfl, rfl, rfl, rfl, trivial⟩ (hs.p 4 [2, 2, 1] rfl)
        · refine rj 0 1 rfl ?_
          exact ih (.p2 s t10_ t11_ t12_ was now v_4) _ hF _ _ io0 io1 b_6 ⟨rfl, rfl, rfl, rfl, rfl, rfl, rfl, trivial⟩ (hs.p 3 [1, 1, 0] rfl)
  · obtain ⟨r_13, g_14, hF⟩ := bind_some hF
    refine rn 2 rfl ?_
    refine df (dfun_own (fun st L K hs hK => d14 s _ g_14 K L st hs hK)) rfl ?_
    obtain ⟨r_15, g_16, hF⟩ := bind_some hF
    refine df' (d53 was r_13 _ g_16) (ds := [slV 2 v25 was, slV 2 v25 r_13]) (dsl_cons (dsw (es := 2) (f := v25) (o := was) (id := io0)) (dsl_cons (dsv (v := slV 2 v25 r_13)) dsl_nil)) ?_
    refine rn 1 rfl ?_
    refine ci hF rfl (fun c_17 hF => ?_) (fun c_17 hF => ?_)
    · refine rn 2 rfl ?_
      cases hF
      exact rD (rlt (rlt rl0)) rfl
    · obtain ⟨r_18, g_19, hF⟩ := bind_some hF
      refine rn 1 rfl ?_
      refine df' (d19 now _ g_19) (ds := [slV 2 v25 now]) (dsl_cons (dsw (es := 2) (f := v25) (o := now) (id := io1)) dsl_nil) ?_
      refine rn 2 rfl ?_
      cases hF
      exact rD (rlt (rlt rl0)) rfl
 | p2 s t10_ t11_ t12_ was now c =>
  dsimp only at hF
  intro tm st io0 io1 io2 hf hs
  refine en hf ?_
  refine rn 0 rfl ?_
  refine W.o (e_faddr rfl (hs.g 2 rfl)) ?_
  refine W.o (l1 rfl (hs.g 2 rfl) rfl) ?_
  refine rn 1 rfl ?_
  refine ci hF rfl (fun c_20 hF => ?_) (fun c_20 hF => ?_)
  · refine rn 1 rfl ?_
    refine W.o (e_faddr rfl (hs.g 2 rfl)) ?_
    refine W.o (lN (s := c25 c.Line) rfl (hs.g 2 rfl) rfl rfl) ?_
    refine bs (f := v25) ([c.Line] : List T25) hs rfl rfl rfl rfl fun st b_21 hs => ?_
    obtain ⟨g_22, hF⟩ := grd_some hF
    refine ap (ys := ls (some ([c.Line] : List T25))) hs 2 rfl rfl (ae_rd (rd_W (o := (some ([c.Line] : List T25))) (id := b_21) rfl)) g_22 (fun _ => rfl) fun st b_23 hs => ?_
    refine rn 3 rfl ?_
    exact ih (.p1 s t10_ t11_ (IntKind.wrap .i64 (t12_ + 1)) was (sapp now (ls (some ([c.Line] : List T25))))) _ hF _ _ io0 b_23 ⟨rfl, rfl, rfl, rfl, rfl, rfl, trivial⟩ (hs.p 4 [1, 1] rfl)
  · refine rn 2 rfl ?_
    exact ih (.p1 s t10_ t11_ (IntKind.wrap .i64 (t12_ + 1)) was now) _ hF _ _ io0 io1 ⟨rfl, rfl, rfl, rfl, rfl, rfl, trivial⟩ (hs.p 3 [0, 0] rfl)
noncomputable def F35 (s : Str) (l : Sl T54) : Option (Str × Int) :=
 (G35 (.p1 s l ((ls l).length : Int) 0 none none))
theorem d35 (s : Str) (l : Sl T54) (r : Str × Int) (hF : F35 s l = some r) : DFun Tryd.prog gE 35 [AV.str s, slV 3 v54 l] (AV.tup [AV.str r.1, AV.int .i64 r.2]) := by
 unfold F35 at hF
 refine bD k35 rfl ?_
 have hs : SH [] [] := SH.nil
 generalize ([] : Store) = st at hs ⊢
 refine rn 5 rfl ?_
 refine W.o (e_len (rd_V rfl)) ?_
 refine rn 1 rfl ?_
 have hs := hs.ownNil T25
 have hs := hs.ownNil T25
 exact w35 (.p1 s l ((ls l).length : Int) 0 none none) _ hF _ _ 0 0 ⟨rfl, rfl, rfl, rfl, rfl, rfl, trivial⟩ (hs.p 2 [1, 0] rfl)
/-! ### 36: paddock/paddockref01.Apply -/
def C36_33 : ACode := .s (.s (.draw [] 0 0 [q 23 (.mv 6), q 24 (.len 23), q 25 (.binI .eql 24 (ki 0)), q 26 (.mv 25), (q 27 (.mv 6)).n 26, (q 28 (.iaddrL 2 27 (ki 0))).n 26, (q 29 (.loadN 2 28)).n 26, (q 30 (.faddr 1 9)).n 26, (q 31 (.loadN 2 30)).n 26, (q 32 (.eqA true [.s, .b] 29 31)).n 26, q 33 (.pick 26 (.c (.bool true)) 32)] []) (.cond 33 (.s (.ops [q 4 (.mv (.c (.str []))), q 5 (.mv (ki 11))]) .ret) .skip)) (.ops [q 34 (.mv 6), q 35 (.slL 2 34 (.some (ki 1)) .none), q 6 (.mv 35)])
def C36_49 : ACode := .s (.ops [q 38 (.faddr 0 9), q 39 (.load1 38), q 40 (.binI .neq 39 (ku 2))]) (.cond 40 (.ops [q 41 (.mv 7), q 42 (.faddr 1 9), q 43 (.loadN 2 42), q 44 (.bslice 2 1 true [(.str []), (.bool false)] [(0, (2, 43))] false), q 45 (.app 2 24 41 44), q 7 (.mv 45)]) .skip)
def C36_20 : ACode := .s (.ops [q 16 (.iaddrL 3 12 14), q 17 (.loadN 3 16), q 9 (.alloc [(.int .u8 0), (.str []), (.bool false)]), q0 (.store 3 9 17)]) (.s (.s (.ops [q 18 (.faddr 0 9), q 19 (.load1 18)]) (.block 2 (.s (.s (.ops [q 21 (.binI .eql 19 (ku 1)), q 20 (.mv 21)]) (.cond 20 .skip (.ops [q 22 (.binI .eql 19 (ku 2)), q 20 (.mv 22)]))) (.cond 20 C36_33 (.s (.ops [q 37 (.binI .eql 19 (ku 3)), q 36 (.mv 37)]) (.cond 36 .skip (.s (.ops [q 4 (.mv (.c (.str []))), q 5 (.mv (ki 11))]) .ret))))))) C36_49)
def C36_54 : ACode := .ops [q 46 (.binI .add 14 (ki 1)), q 14 (.mv 46)]
def C36_12 : ACode := .s (.ops [q 15 (.binI .lss 14 13)]) (.s (.cond 15 .skip (.exit 0)) (.s (.block 1 C36_20) C36_54))
def C36_55 : ACode := .s (.s (.ops [q 47 (.mv 6), q 48 (.len 47), q 49 (.binI .gtr 48 (ki 0))]) (.cond 49 (.s (.ops [q 4 (.mv (.c (.str []))), q 5 (.mv (ki 11))]) .ret) .skip)) (.s (.ops [q 50 (.mv 7), qc 51 20 [50], q 4 (.mv 51), q 5 (.mv (ki 0))]) .ret)
def C36_1 : ACode := .s (.ops [q 4 (.mv (.c (.str []))), q 5 (.mv (ki 0))]) (.s (.ops [q 10 (.mv 0), qc 11 16 [10], q 6 (.mv 11)]) (.s (.ops [q 7 (.mv (.c .nils))]) (.s (.s (.ops [q 12 (.mv 1), q 13 (.len 12), q 14 (.mv (ki 0))]) (.block 0 (.loop C36_12))) C36_55)))
def R36 : List RA := [(.tmp 4), (.tmp 5)]
theorem k36 : compF Tryd.prog (muL []) 36 = some ⟨52, C36_1, R36⟩ := by kernel_rfl
noncomputable abbrev X36 (r : Str × Int) : Cx := cD Tryd.prog gE 52 R36 (AV.tup [AV.str r.1, AV.int .i64 r.2])
inductive St36 where
 | p1 (a : Sl T25) (t12_ : Sl T54) (t13_ : Int) (t14_ : Int) (out : Sl T25)
 | p2 (a : Sl T25) (t12_ : Sl T54) (t13_ : Int) (t14_ : Int) (out : Sl T25) (c : T54)
 | p3 (a : Sl T25) (t12_ : Sl T54) (t13_ : Int) (t14_ : Int) (out : Sl T25) (c : T54)
noncomputable def G36 : St36 → Option (Str × Int)
 | .p1 a t12_ t13_ t14_ out =>
  (if (decide (t14_ < t13_)) = true then
   (ix (ls t12_) t14_ >>= fun v_5 =>
    (if (v_5.Kind == 1) = true then
     (G36 (.p2 a t12_ t13_ t14_ out v_5))
    else
     (if (v_5.Kind == 2) = true then
      (G36 (.p2 a t12_ t13_ t14_ out v_5))
     else
      (if (v_5.Kind == 3) = true then
       (G36 (.p3 a t12_ t13_ t14_ out v_5))
      else
       (some (([] : Str), 11))))))
  else
   (if (decide (((ls a).length : Int) > 0)) = true then
    (some (([] : Str), 11))
   else
    (F20 out >>= fun r_12 =>
     (some (r_12, 0)))))
 | .p2 a t12_ t13_ t14_ out c =>
  (if (((ls a).length : Int) == 0) = true then
   (some (([] : Str), 11))
  else
   (ix (ls a) 0 >>= fun v_15 =>
    (if (!decide (v_15 = c.Line)) = true then
     (some (([] : Str), 11))
    else
     (scut a 1 ((ls a).length) >>= fun w_18 =>
      (G36 (.p3 w_18 t12_ t13_ t14_ out c))))))
 | .p3 a t12_ t13_ t14_ out c =>
  (if (c.Kind != 2) = true then
   (if ((ls out).length + (ls (some ([c.Line] : List T25))).length) * 24 ≤ 140737488355328 then
    (G36 (.p1 a t12_ t13_ (IntKind.wrap .i64 (t14_ + 1)) (sapp out (ls (some ([c.Line] : List T25))))))
   else none)
  else
   (G36 (.p1 a t12_ t13_ (IntKind.wrap .i64 (t14_ + 1)) out)))
 partial_fixpoint
def M36 (x : St36) (r : Str × Int) : Prop := match x with
 | .p1 a t12_ t13_ t14_ out => ∀ (tm : Fr) (st : Store) (io0 : Nat), Frm tm [(6, slV 2 v25 a), (7, ownV 2 v25 out io0), (12, slV 3 v54 t12_), (13, AV.int .i64 t13_), (14, AV.int .i64 t14_)] → SH st [ownA io0 out] → W (X36 r) [.lp C36_12, .blk 0, .code C36_55] tm st
 | .p2 a t12_ t13_ t14_ out c => ∀ (tm : Fr) (st : Store) (io0 : Nat) (io1 : Nat), Frm tm [(6, slV 2 v25 a), (7, ownV 2 v25 out io0), (9, .ptr io1 0), (12, slV 3 v54 t12_), (13, AV.int .i64 t13_), (14, AV.int .i64 t14_)] → SH st [ownA io0 out, pt io1 (.cells (c54 c))] → W (X36 r) [.code C36_33, .blk 2, .code C36_49, .blk 1, .code C36_54, .lp C36_12, .blk 0, .code C36_55] tm st
 | .p3 a t12_ t13_ t14_ out c => ∀ (tm : Fr) (st : Store) (io0 : Nat) (io1 : Nat), Frm tm [(6, slV 2 v25 a), (7, ownV 2 v25 out io0), (9, .ptr io1 0), (12, slV 3 v54 t12_), (13, AV.int .i64 t13_), (14, AV.int .i64 t14_)] → SH st [ownA io0 out, pt io1 (.cells (c54 c))] → W (X36 r) [.code C36_49, .blk 1, .code C36_54, .lp C36_12, .blk 0, .code C36_55] tm st
theorem w36 : ∀ (x : St36) (r : Str × Int), G36 x = some r → M36 x r := by
 refine G36.partial_correctness M36 ?_
 intro g ih x r hF
 cases x with
 | p1 a t12_ t13_ t14_ out =>
  dsimp only at hF
  intro tm st io0 hf hs
  refine en hf ?_
  refine lp ?_
  refine rn 1 rfl ?_
  refine ci hF rfl (fun c_4 hF => ?_) (fun c_4 hF => ?_)
  · obtain ⟨v_5, g_6, hF⟩ := bind_some hF
    refine rn 0 rfl ?_
    refine W.o (e_iaddrL (rd_V rfl) rfl g_6) ?_
    refine W.o (lND (s := c54 v_5) rfl rfl rfl) ?_
    refine al hs (cs := c54 ({ Kind := 0, Line := ({ Text := [], Whole := false } : T25) } : T54)) rfl fun st b_7 hs => ?_
    refine sr hs 0 rfl rfl rfl (cs' := c54 v_5) rfl rfl fun st hs => ?_
    refine rn 0 rfl ?_
    refine W.o (e_faddr rfl (hs.g 0 rfl)) ?_
    refine W.o (l1 rfl (hs.g 0 rfl) rfl) ?_
    refine rn 2 rfl ?_
    refine ci hF rfl (fun c_8 hF => ?_) (fun c_8 hF => ?_)
    · refine rn 0 rfl ?_
      refine ct rfl c_8 ?_
      exact ih (.p2 a t12_ t13_ t14_ out v_5) _ hF _ _ io0 b_7 ⟨rfl, rfl, rfl, rfl, rfl, rfl, trivial⟩ (hs.p 2 [1, 0] rfl)
    · refine rn 2 rfl ?_
      refine ci hF rfl (fun c_9 hF => ?_) (fun c_9 hF => ?_)
      · exact ih (.p2 a t12_ t13_ t14_ out v_5) _ hF _ _ io0 b_7 ⟨rfl, rfl, rfl, rfl, rfl, rfl, trivial⟩ (hs.p 2 [1, 0] rfl)
      · refine rn 2 rfl ?_
        refine ci hF rfl (fun c_10 hF => ?_) (fun c_10 hF => ?_)
        · refine rj 0 2 rfl ?_
          exact ih (.p3 a t12_ t13_ t14_ out v_5) _ hF _ _ io0 b_7 ⟨rfl, rfl, rfl, rfl, rfl, rfl, trivial⟩ (hs.p 2 [1, 0] rfl)
        · refine rn 2 rfl ?_
          cases hF
          exact rD (rlt (rlt rl0)) rfl
  · refine rn 1 rfl ?_
    refine W.o (e_len (rd_V rfl)) ?_
    refine rn 1 rfl ?_
    refine ci hF rfl (fun c_11 hF => ?_) (fun c_11 hF => ?_)
    · refine rn 2 rfl ?_
      cases hF
      exact rD (rlt (rlt rl0)) rfl
    · obtain ⟨r_12, g_13, hF⟩ := bind_some hF
      refine rn 1 rfl ?_
      refine df' (d20 out _ g_13) (ds := [slV 2 v25 out]) (dsl_cons (dsw (es := 2) (f := v25) (o := out) (id := io0)) dsl_nil) ?_
      refine rn 2 rfl ?_
      cases hF
      exact rD (rlt (rlt rl0)) rfl
 | p2 a t12_ t13_ t14_ out c =>
  dsimp only at hF
  intro tm st io0 io1 hf hs
  refine en hf ?_
  refine rn 0 rfl ?_
  have h0 := hs
  refine dr0 ?_
  refine dn 1 rfl ?_
  refine de rfl (e_len (rd_V rfl)) ?_
  refine dn 2 rfl ?_
  refine bi hF (fun c_14 hF => ?_) (fun c_14 hF => ?_)
  · refine dfx 26 rfl c_14 ?_
    refine dn 7 rfl ?_
    refine dz ?_
    refine rn 0 rfl ?_
    refine ct rfl rfl ?_
    refine rn 2 rfl ?_
    cases hF
    exact rD (rlt (rlt rl0)) rfl
  · refine dfx 26 rfl c_14 ?_
    obtain ⟨v_15, g_16, hF⟩ := bind_some hF
    refine dn 1 rfl ?_
    refine don rfl rfl ?_
    refine de rfl (e_iaddrL (rd_V rfl) rfl g_16) ?_
    refine don rfl rfl ?_
    refine de rfl (lND (s := c25 v_15) rfl rfl rfl) ?_
    refine don rfl rfl ?_
    refine de rfl (e_faddr rfl (h0.g 1 rfl)) ?_
    refine don rfl rfl ?_
    refine de rfl (lN (s := c25 c.Line) rfl (h0.g 1 rfl) rfl rfl) ?_
    refine don rfl rfl ?_
    refine de rfl (e_neA rfl rfl (c25_eq v_15 c.Line)) ?_
    refine dn 1 rfl ?_
    refine dz ?_
    refine rn 0 rfl ?_
    refine ci hF rfl (fun c_17 hF => ?_) (fun c_17 hF => ?_)
    · refine rn 2 rfl ?_
      cases hF
      exact rD (rlt (rlt rl0)) rfl
    · obtain ⟨w_18, g_19, hF⟩ := bind_some hF
      refine rn 1 rfl ?_
      refine W.o (e_slLl (rd_V rfl) rfl g_19) ?_
      refine rj 1 2 rfl ?_
      exact ih (.p3 w_18 t12_ t13_ t14_ out c) _ hF _ _ io0 io1 ⟨rfl, rfl, rfl, rfl, rfl, rfl, trivial⟩ hs
 | p3 a t12_ t13_ t14_ out c =>
  dsimp only at hF
  intro tm st io0 io1 hf hs
  refine en hf ?_
  refine rn 0 rfl ?_
  refine W.o (e_faddr rfl (hs.g 1 rfl)) ?_
  refine W.o (l1 rfl (hs.g 1 rfl) rfl) ?_
  refine rn 1 rfl ?_
  refine ci hF rfl (fun c_20 hF => ?_) (fun c_20 hF => ?_)
  · refine rn 1 rfl ?_
    refine W.o (e_faddr rfl (hs.g 1 rfl)) ?_
    refine W.o (lN (s := c25 c.Line) rfl (hs.g 1 rfl) rfl rfl) ?_
    refine bs (f := v25) ([c.Line] : List T25) hs rfl rfl rfl rfl fun st b_21 hs => ?_
    obtain ⟨g_22, hF⟩ := grd_some hF
    refine ap (ys := ls (some ([c.Line] : List T25))) hs 1 rfl rfl (ae_rd (rd_W (o := (some ([c.Line] : List T25))) (id := b_21) rfl)) g_22 (fun _ => rfl) fun st b_23 hs => ?_
    refine rn 3 rfl ?_
    exact ih (.p1 a t12_ t13_ (IntKind.wrap .i64 (t14_ + 1)) (sapp out (ls (some ([c.Line] : List T25))))) _ hF _ _ b_23 ⟨rfl, rfl, rfl, rfl, rfl, trivial⟩ (hs.p 3 [1] rfl)
  · refine rn 2 rfl ?_
    exact ih (.p1 a t12_ t13_ (IntKind.wrap .i64 (t14_ + 1)) out) _ hF _ _ io0 ⟨rfl, rfl, rfl, rfl, rfl, trivial⟩ (hs.p 2 [0] rfl)
noncomputable def F36 (s : Str) (l : Sl T54) : Option (Str × Int) :=
 (F16 s >>= fun r_1 =>
  (G36 (.p1 r_1 l ((ls l).length : Int) 0 none)))
theorem d36 (s : Str) (l : Sl T54) (r : Str × Int) (hF : F36 s l = some r) : DFun Tryd.prog gE 36 [AV.str s, slV 3 v54 l] (AV.tup [AV.str r.1, AV.int .i64 r.2]) := by
 unfold F36 at hF
 refine bD k36 rfl ?_
 have hs : SH [] [] := SH.nil
 generalize ([] : Store) = st at hs ⊢
 obtain ⟨r_1, g_2, hF⟩ := bind_some hF
 refine rn 3 rfl ?_
 refine df (dfun_own (fun st L K hs hK => d16 s _ g_2 K L st hs hK)) rfl ?_
 refine rn 3 rfl ?_
 refine W.o (e_len (rd_V rfl)) ?_
 refine rn 1 rfl ?_
 have hs := hs.ownNil T25
 exact w36 (.p1 r_1 l ((ls l).length : Int) 0 none) _ hF _ _ 0 ⟨rfl, rfl, rfl, rfl, rfl, trivial⟩ hs
/-! ### 37: paddock/paddockref01.Changes -/
def C37_26 : ACode := .s (.draw [] 0 0 [q 16 (.mv 0), q 17 (.mv 5), q 18 (.iaddrL 3 16 17), q 19 (.loadN 3 18), q 20 (.mv 1), q 21 (.mv 5), q 22 (.iaddrL 3 20 21), q 23 (.loadN 3 22), q 24 (.eqA true [.i, .s, .b] 19 23)] []) (.cond 24 (.s (.ops [q 4 (.mv (.c (.bool false)))]) .ret) .skip)
def C37_16 : ACode := .s (.ops [q 14 (.binI .lss 13 12)]) (.s (.cond 14 .skip (.exit 0)) (.s (.block 1 (.s (.ops [q 15 (.mv 13), q 5 (.mv 15)]) C37_26)) (.ops [q 25 (.binI .add 13 (ki 1)), q 13 (.mv 25)])))
def C37_34 : ACode := .s (.ops [q 4 (.mv (.c (.bool true)))]) .ret
def C37_1 : ACode := .s (.ops [q 4 (.mv (.c (.bool false)))]) (.s (.s (.ops [q 6 (.mv 0), q 7 (.len 6), q 8 (.mv 1), q 9 (.len 8), q 10 (.binI .neq 7 9)]) (.cond 10 (.s (.ops [q 4 (.mv (.c (.bool false)))]) .ret) .skip)) (.s (.s (.ops [q 11 (.mv 0), q 12 (.len 11), q 13 (.mv (ki 0))]) (.block 0 (.loop C37_16))) C37_34))
def R37 : List RA := [(.tmp 4)]
theorem k37 : compF Tryd.prog (muL []) 37 = some ⟨26, C37_1, R37⟩ := by kernel_rfl
noncomputable abbrev X37 (r : Bool) : Cx := cD Tryd.prog gE 26 R37 (AV.bool r)
inductive St37 where
 | p1 (a : Sl T54) (b : Sl T54) (t12_ : Int) (t13_ : Int)
noncomputable def G37 : St37 → Option Bool
 | .p1 a b t12_ t13_ =>
  (if (decide (t13_ < t12_)) = true then
   (ix (ls a) t13_ >>= fun v_3 =>
    (ix (ls b) t13_ >>= fun v_5 =>
     (if (!decide (v_3 = v_5)) = true then
      (some false)
     else
      (G37 (.p1 a b t12_ (IntKind.wrap .i64 (t13_ + 1)))))))
  else
   (some true))
 partial_fixpoint
def M37 (x : St37) (r : Bool) : Prop := match x with
 | .p1 a b t12_ t13_ => ∀ (tm : Fr) (st : Store), Frm tm [(0, slV 3 v54 a), (1, slV 3 v54 b), (12, AV.int .i64 t12_), (13, AV.int .i64 t13_)] → SH st [] → W (X37 r) [.lp C37_16, .blk 0, .code C37_34] tm st
theorem w37 : ∀ (x : St37) (r : Bool), G37 x = some r → M37 x r := by
 refine G37.partial_correctness M37 ?_
 intro g ih x r hF
 cases x with
 | p1 a b t12_ t13_ =>
  dsimp only at hF
  intro tm st hf hs
  refine en hf ?_
  refine lp ?_
  refine rn 1 rfl ?_
  refine ci hF rfl (fun c_2 hF => ?_) (fun c_2 hF => ?_)
  · refine rn 2 rfl ?_
    have h0 := hs
    refine dr0 ?_
    obtain ⟨v_3, g_4, hF⟩ := bind_some hF
    refine dn 2 rfl ?_
    refine de rfl (e_iaddrL (rd_V rfl) rfl g_4) ?_
    refine de rfl (lND (s := c54 v_3) rfl rfl rfl) ?_
    obtain ⟨v_5, g_6, hF⟩ := bind_some hF
    refine dn 2 rfl ?_
    refine de rfl (e_iaddrL (rd_V rfl) rfl g_6) ?_
    refine de rfl (lND (s := c54 v_5) rfl rfl rfl) ?_
    refine de rfl (e_neA rfl rfl (c54_eq v_3 v_5)) ?_
    refine dz ?_
    refine rn 0 rfl ?_
    refine ci hF rfl (fun c_7 hF => ?_) (fun c_7 hF => ?_)
    · refine rn 1 rfl ?_
      cases hF
      exact rD (rlt rl0) rfl
    · refine rn 2 rfl ?_
      exact ih (.p1 a b t12_ (IntKind.wrap .i64 (t13_ + 1))) _ hF _ _ ⟨rfl, rfl, rfl, rfl, trivial⟩ hs
  · refine rn 1 rfl ?_
    cases hF
    exact rD (rlt rl0) rfl
noncomputable def F37 (a : Sl T54) (b : Sl T54) : Option Bool :=
 (if (((ls a).length : Int) != ((ls b).length : Int)) = true then
  (some false)
 else
  (G37 (.p1 a b ((ls a).length : Int) 0)))
theorem d37 (a : Sl T54) (b : Sl T54) (r : Bool) (hF : F37 a b = some r) : DFun Tryd.prog gE 37 [slV 3 v54 a, slV 3 v54 b] (AV.bool r) := by
 unfold F37 at hF
 refine bD k37 rfl ?_
 have hs : SH [] [] := SH.nil
 generalize ([] : Store) = st at hs ⊢
 refine rn 2 rfl ?_
 refine W.o (e_len (rd_V rfl)) ?_
 refine rn 1 rfl ?_
 refine W.o (e_len (rd_V rfl)) ?_
 refine rn 1 rfl ?_
 refine ci hF rfl (fun c_1 hF => ?_) (fun c_1 hF => ?_)
 · refine rn 1 rfl ?_
   cases hF
   exact rD (rlt rl0) rfl
 · refine rn 1 rfl ?_
   refine W.o (e_len (rd_V rfl)) ?_
   refine rn 1 rfl ?_
   exact w37 (.p1 a b ((ls a).length : Int) 0) _ hF _ _ ⟨rfl, rfl, rfl, rfl, trivial⟩ hs
/-! ### 38: paddock/paddocklaw01.kept -/
def C38_20 : ACode := .s (.ops [q 12 (.faddr 0 5), q 13 (.load1 12), q 14 (.binI .eql 13 (ku 1))]) (.cond 14 (.ops [q 15 (.mv 3), q 16 (.binI .add 15 (ki 1)), q 3 (.mv 16)]) .skip)
def C38_10 : ACode := .s (.ops [q 9 (.binI .lss 8 7)]) (.s (.cond 9 .skip (.exit 0)) (.s (.block 1 (.s (.ops [q 10 (.iaddrL 3 6 8), q 11 (.loadN 3 10), q 5 (.alloc [(.int .u8 0), (.str []), (.bool false)]), q0 (.store 3 5 11)]) C38_20)) (.ops [q 17 (.binI .add 8 (ki 1)), q 8 (.mv 17)])))
def C38_26 : ACode := .s (.ops [q 18 (.mv 3), q 2 (.mv 18)]) .ret
def C38_1 : ACode := .s (.ops [q 2 (.mv (ki 0))]) (.s (.ops [q 3 (.mv (ki 0))]) (.s (.s (.ops [q 6 (.mv 0), q 7 (.len 6), q 8 (.mv (ki 0))]) (.block 0 (.loop C38_10))) C38_26))
def R38 : List RA := [(.tmp 2)]
theorem k38 : compF Tryd.prog (muL []) 38 = some ⟨19, C38_1, R38⟩ := by kernel_rfl
noncomputable abbrev X38 (r : Int) : Cx := cD Tryd.prog gE 19 R38 (AV.int .i64 r)
inductive St38 where
 | p1 (n : Int) (t6_ : Sl T54) (t7_ : Int) (t8_ : Int)
noncomputable def G38 : St38 → Option Int
 | .p1 n t6_ t7_ t8_ =>
  (if (decide (t8_ < t7_)) = true then
   (ix (ls t6_) t8_ >>= fun v_2 =>
    (if (v_2.Kind == 1) = true then
     (G38 (.p1 (IntKind.wrap .i64 (n + 1)) t6_ t7_ (IntKind.wrap .i64 (t8_ + 1))))
    else
     (G38 (.p1 n t6_ t7_ (IntKind.wrap .i64 (t8_ + 1))))))
  else
   (some n))
 partial_fixpoint
def M38 (x : St38) (r : Int) : Prop := match x with
 | .p1 n t6_ t7_ t8_ => ∀ (tm : Fr) (st : Store), Frm tm [(3, AV.int .i64 n), (6, slV 3 v54 t6_), (7, AV.int .i64 t7_), (8, AV.int .i64 t8_)] → SH st [] → W (X38 r) [.lp C38_10, .blk 0, .code C38_26] tm st
theorem w38 : ∀ (x : St38) (r : Int), G38 x = some r → M38 x r := by
 refine G38.partial_correctness M38 ?_
 intro g ih x r hF
 cases x with
 | p1 n t6_ t7_ t8_ =>
  dsimp only at hF
  intro tm st hf hs
  refine en hf ?_
  refine lp ?_
  refine rn 1 rfl ?_
  refine ci hF rfl (fun c_1 hF => ?_) (fun c_1 hF => ?_)
  · obtain ⟨v_2, g_3, hF⟩ := bind_some hF
    refine rn 0 rfl ?_
    refine W.o (e_iaddrL (rd_V rfl) rfl g_3) ?_
    refine W.o (lND (s := c54 v_2) rfl rfl rfl) ?_
    refine al hs (cs := c54 ({ Kind := 0, Line := ({ Text := [], Whole := false } : T25) } : T54)) rfl fun st b_4 hs => ?_
    refine sr hs 0 rfl rfl rfl (cs' := c54 v_2) rfl rfl fun st hs => ?_
    refine rn 0 rfl ?_
    refine W.o (e_faddr rfl (hs.g 0 rfl)) ?_
    refine W.o (l1 rfl (hs.g 0 rfl) rfl) ?_
    refine rn 1 rfl ?_
    refine ci hF rfl (fun c_5 hF => ?_) (fun c_5 hF => ?_)
    · refine rn 5 rfl ?_
      exact ih (.p1 (IntKind.wrap .i64 (n + 1)) t6_ t7_ (IntKind.wrap .i64 (t8_ + 1))) _ hF _ _ ⟨rfl, rfl, rfl, rfl, trivial⟩ (hs.p 1 [] rfl)
    · refine rn 2 rfl ?_
      exact ih (.p1 n t6_ t7_ (IntKind.wrap .i64 (t8_ + 1))) _ hF _ _ ⟨rfl, rfl, rfl, rfl, trivial⟩ (hs.p 1 [] rfl)
  · refine rn 2 rfl ?_
    cases hF
    exact rD (rlt rl0) rfl
noncomputable def F38 (l : Sl T54) : Option Int :=
 (G38 (.p1 0 l ((ls l).length : Int) 0))
theorem d38 (l : Sl T54) (r : Int) (hF : F38 l = some r) : DFun Tryd.prog gE 38 [slV 3 v54 l] (AV.int .i64 r) := by
 unfold F38 at hF
 refine bD k38 rfl ?_
 have hs : SH [] [] := SH.nil
 generalize ([] : Store) = st at hs ⊢
 refine rn 3 rfl ?_
 refine W.o (e_len (rd_V rfl)) ?_
 refine rn 1 rfl ?_
 exact w38 (.p1 0 l ((ls l).length : Int) 0) _ hF _ _ ⟨rfl, rfl, rfl, rfl, trivial⟩ hs
/-! ### 47: paddock/lines.hunks -/
def C47_32 : ACode := .ops [q 44 (.mv 5), q 45 (.mv 6), q 46 (.mv 6), q 47 (.binI .add 46 (ki 1)), q 48 (.build [(.int .i64 0), (.int .i64 0)] [(0, (1, 45)), (1, (1, 47))]), q 49 (.bslice 2 1 true [(.int .i64 0), (.int .i64 0)] [(0, (2, 48))] false), q 50 (.appR 2 16 44 49), q 5 (.mv 50)]
def C47_20 : ACode := .s (.s (.ops [q 17 (.faddr 0 7), q 18 (.load1 17), q 19 (.binI .eql 18 (ku 1))]) (.cond 19 (.exit 1) .skip)) (.s (.ops [q 20 (.mv 5), q 21 (.len 20), q 8 (.mv 21)]) (.s (.ops [q 22 (.mv 8), q 23 (.binI .gtr 22 (ki 0)), q 24 (.mv 23), (q 25 (.mv 6)).y 24, (q 26 (.mv 5)).y 24, (q 27 (.mv 8)).y 24, (q 28 (.binI .sub 27 (ki 1))).y 24, (q 29 (.iaddrL 2 26 28)).y 24, (q 30 (.iaddrA 2 1 29 (ki 1))).y 24, (q 31 (.load1 30)).y 24, (q 32 (.binI .sub 25 31)).y 24, (q 33 (.mv 1)).y 24, (q 34 (.binI .mul (ki 2) 33)).y 24, (q 35 (.binI .leq 32 34)).y 24, q 36 (.pick 24 35 (.c (.bool false)))]) (.cond 36 (.ops [q 37 (.mv 5), q 38 (.mv 8), q 39 (.binI .sub 38 (ki 1)), q 40 (.mv 6), q 41 (.binI .add 40 (ki 1)), q 42 (.iaddrL 2 37 39), q 43 (.iaddrA 2 1 42 (ki 1)), q0 (.store 1 43 41)]) C47_32)))
def C47_33 : ACode := .ops [q 51 (.binI .add 12 (ki 1)), q 12 (.mv 51)]
def C47_10 : ACode := .s (.ops [q 13 (.binI .lss 12 11)]) (.s (.cond 13 .skip (.exit 0)) (.s (.block 1 (.s (.ops [q 14 (.mv 12), q 15 (.iaddrL 3 10 12), q 16 (.loadN 3 15), q 7 (.alloc [(.int .u8 0), (.str []), (.bool false)]), q 6 (.mv 14), q0 (.store 3 7 16)]) C47_20)) C47_33))
def C47_47 : ACode := .s (.ops [q 56 (.mv 54), q 9 (.mv 56)]) (.draw [] 0 0 [q 57 (.mv 5), q 58 (.mv 9), q 59 (.mv 5), q 60 (.mv 9), q 61 (.iaddrL 2 59 60), q 62 (.iaddrA 2 1 61 (ki 0)), q 63 (.load1 62), q 64 (.mv 1), q 65 (.binI .sub 63 64), q 66 (.max [65, (ki 0)]), q 67 (.mv 5), q 68 (.mv 9), q 69 (.iaddrL 2 67 68), q 70 (.iaddrA 2 1 69 (ki 1)), q 71 (.load1 70), q 72 (.mv 1), q 73 (.binI .add 71 72), q 74 (.mv 0), q 75 (.len 74), q 76 (.min [73, 75]), q 77 (.build [(.int .i64 0), (.int .i64 0)] [(0, (1, 66)), (1, (1, 76))]), q 78 (.iaddrL 2 57 58)] [q0 (.store 2 78 77)])
def C47_39 : ACode := .s (.ops [q 55 (.binI .lss 54 53)]) (.s (.cond 55 .skip (.exit 2)) (.s (.block 3 C47_47) (.ops [q 79 (.binI .add 54 (ki 1)), q 54 (.mv 79)])))
def C47_51 : ACode := .s (.ops [q 80 (.mv 5), q 4 (.mv 80)]) .ret
def C47_34 : ACode := .s (.s (.ops [q 52 (.mv 5), q 53 (.len 52), q 54 (.mv (ki 0))]) (.block 2 (.loop C47_39))) C47_51
def C47_1 : ACode := .s (.ops [q 4 (.mv (.c .nils))]) (.s (.ops [q 5 (.mv (.c .nils))]) (.s (.s (.ops [q 10 (.mv 0), q 11 (.len 10), q 12 (.mv (ki 0))]) (.block 0 (.loop C47_10))) C47_34))
def R47 : List RA := [(.tmp 4)]
theorem k47 : compF Tryd.prog (muL [50]) 47 = some ⟨81, C47_1, R47⟩ := by kernel_rfl
noncomputable abbrev X47 (K : AV → Store → Prop) : Cx := cK Tryd.prog gE 81 R47 K [50]
inductive St47 where
 | p1 (l : Sl T54) (around : Int) (t10_ : Sl T54) (t11_ : Int) (t12_ : Int) (out : Sl (Arr 2 Int))
 | p2 (l : Sl T54) (around : Int) (i : Int) (t10_ : Sl T54) (t11_ : Int) (t12_ : Int) (out : Sl (Arr 2 Int))
 | p3 (l : Sl T54) (around : Int) (t53_ : Int) (t54_ : Int) (out : Sl (Arr 2 Int))
noncomputable def G47 : St47 → Option (Sl (Arr 2 Int))
 | .p1 l around t10_ t11_ t12_ out =>
  (if (decide (t12_ < t11_)) = true then
   (ix (ls t10_) t12_ >>= fun v_3 =>
    (if (v_3.Kind == 1) = true then
     (G47 (.p1 l around t10_ t11_ (IntKind.wrap .i64 (t12_ + 1)) out))
    else
     (if (decide (((ls out).length : Int) > 0)) = true then
      (ix (ls out) (IntKind.wrap .i64 (((ls out).length : Int) - 1)) >>= fun v_8 =>
       (if (0 : Int) ≤ 1 ∧ 1 < (2 : Int) then
        (ix v_8.l 1 >>= fun v_11 =>
         (if (decide ((IntKind.wrap .i64 (t12_ - v_11)) ≤ (IntKind.wrap .i64 (2 * around)))) = true then
          (ix (ls out) (IntKind.wrap .i64 (((ls out).length : Int) - 1)) >>= fun v_14 =>
           (if (0 : Int) ≤ 1 ∧ 1 < (2 : Int) then
            (G47 (.p1 l around t10_ t11_ (IntKind.wrap .i64 (t12_ + 1)) (vset out (IntKind.wrap .i64 (((ls out).length : Int) - 1)) (aset v_14 1 (IntKind.wrap .i64 (t12_ + 1))))))
           else none))
         else
          (G47 (.p2 l around t12_ t10_ t11_ t12_ out))))
       else none))
     else
      (G47 (.p2 l around t12_ t10_ t11_ t12_ out)))))
  else
   (G47 (.p3 l around ((ls out).length : Int) 0 out)))
 | .p2 l around i t10_ t11_ t12_ out =>
  (if ((ls out).length + (ls (some ([(aset (aset (Arr.rep 2 0) 0 i) 1 (IntKind.wrap .i64 (i + 1)))] : List (Arr 2 Int)))).length) * 16 ≤ 140737488355328 then
   (G47 (.p1 l around t10_ t11_ (IntKind.wrap .i64 (t12_ + 1)) (sapp out (ls (some ([(aset (aset (Arr.rep 2 0) 0 i) 1 (IntKind.wrap .i64 (i + 1)))] : List (Arr 2 Int)))))))
  else none)
 | .p3 l around t53_ t54_ out =>
  (if (decide (t54_ < t53_)) = true then
   (ix (ls out) t54_ >>= fun v_23 =>
    (if (0 : Int) ≤ 0 ∧ 0 < (2 : Int) then
     (ix v_23.l 0 >>= fun v_26 =>
      (ix (ls out) t54_ >>= fun v_28 =>
       (if (0 : Int) ≤ 1 ∧ 1 < (2 : Int) then
        (ix v_28.l 1 >>= fun v_31 =>
         (ix (ls out) t54_ >>= fun v_33 =>
          (G47 (.p3 l around t53_ (IntKind.wrap .i64 (t54_ + 1)) (vset out t54_ (aset (aset (Arr.rep 2 0) 0 (if 0 > (IntKind.wrap .i64 (v_26 - around)) then 0 else (IntKind.wrap .i64 (v_26 - around)))) 1 (if ((ls l).length : Int) < (IntKind.wrap .i64 (v_31 + around)) then ((ls l).length : Int) else (IntKind.wrap .i64 (v_31 + around)))))))))
       else none)))
    else none))
  else
   (some out))
 partial_fixpoint
def M47 (x : St47) (r : Sl (Arr 2 Int)) : Prop := match x with
 | .p1 l around t10_ t11_ t12_ out => ∀ (K : AV → Store → Prop) (Ls : List Asn), (∀ st id, SH st (rvA c74 id r :: Ls) → K (rvV 2 r id) st) → ∀ (tm : Fr) (st : Store) (io0 : Nat), Frm tm [(0, slV 3 v54 l), (1, AV.int .i64 around), (5, rvV 2 out io0), (10, slV 3 v54 t10_), (11, AV.int .i64 t11_), (12, AV.int .i64 t12_)] → SH st (rvA c74 io0 out :: Ls) → W (X47 K) [.lp C47_10, .blk 0, .code C47_34] tm st
 | .p2 l around i t10_ t11_ t12_ out => ∀ (K : AV → Store → Prop) (Ls : List Asn), (∀ st id, SH st (rvA c74 id r :: Ls) → K (rvV 2 r id) st) → ∀ (tm : Fr) (st : Store) (io0 : Nat), Frm tm [(0, slV 3 v54 l), (1, AV.int .i64 around), (5, rvV 2 out io0), (6, AV.int .i64 i), (10, slV 3 v54 t10_), (11, AV.int .i64 t11_), (12, AV.int .i64 t12_)] → SH st (rvA c74 io0 out :: Ls) → W (X47 K) [.code C47_32, .blk 1, .code C47_33, .lp C47_10, .blk 0, .code C47_34] tm st
 | .p3 l around t53_ t54_ out => ∀ (K : AV → Store → Prop) (Ls : List Asn), (∀ st id, SH st (rvA c74 id r :: Ls) → K (rvV 2 r id) st) → ∀ (tm : Fr) (st : Store) (io0 : Nat), Frm tm [(0, slV 3 v54 l), (1, AV.int .i64 around), (5, rvV 2 out io0), (53, AV.int .i64 t53_), (54, AV.int .i64 t54_)] → SH st (rvA c74 io0 out :: Ls) → W (X47 K) [.lp C47_39, .blk 2, .code C47_51] tm st
theorem w47 : ∀ (x : St47) (r : Sl (Arr 2 Int)), G47 x = some r → M47 x r := by
 refine G47.partial_correctness M47 ?_
 intro g ih x r hF
 cases x with
 | p1 l around t10_ t11_ t12_ out =>
  dsimp only at hF
  intro K Ls hK tm st io0 hf hs
  refine en hf ?_
  refine lp ?_
  refine rn 1 rfl ?_
  refine ci hF rfl (fun c_2 hF => ?_) (fun c_2 hF => ?_)
  · obtain ⟨v_3, g_4, hF⟩ := bind_some hF
    refine rn 1 rfl ?_
    refine W.o (e_iaddrL (rd_V rfl) rfl g_4) ?_
    refine W.o (lND (s := c54 v_3) rfl rfl rfl) ?_
    refine al hs (cs := c54 ({ Kind := 0, Line := ({ Text := [], Whole := false } : T25) } : T54)) rfl fun st b_5 hs => ?_
    refine rn 1 rfl ?_
    refine sr hs 0 rfl rfl rfl (cs' := c54 v_3) rfl rfl fun st hs => ?_
    refine rn 0 rfl ?_
    refine W.o (e_faddr rfl (hs.g 0 rfl)) ?_
    refine W.o (l1 rfl (hs.g 0 rfl) rfl) ?_
    refine rn 1 rfl ?_
    refine ci hF rfl (fun c_6 hF => ?_) (fun c_6 hF => ?_)
    · refine rn 2 rfl ?_
      exact ih (.p1 l around t10_ t11_ (IntKind.wrap .i64 (t12_ + 1)) out) _ hF K Ls hK _ _ io0 ⟨rfl, rfl, rfl, rfl, rfl, rfl, trivial⟩ (hs.p 2 [1] rfl)
    · refine rn 1 rfl ?_
      refine W.o (e_lenV hs 1 rfl rfl) ?_
      refine rn 4 rfl ?_
      refine bi hF (fun c_7 hF => ?_) (fun c_7 hF => ?_)
      · refine wfx 24 rfl c_7 ?_
        obtain ⟨v_8, g_9, hF⟩ := bind_some hF
        refine rn 4 rfl ?_
        refine W.on rfl rfl ?_
        refine W.o (e_iaddrV hs 1 rfl rfl rfl g_9) ?_
        obtain ⟨g_10, hF⟩ := grd_some hF
        refine W.on rfl rfl ?_
        refine W.o (e_iaddrA rfl (SH.gv hs 1 rfl g_9) rfl g_10) ?_
        obtain ⟨v_11, g_12, hF⟩ := bind_some hF
        refine W.on rfl rfl ?_
        refine W.o (e_load1 rfl (SH.gv hs 1 rfl g_9) (LR.cast (LR.comp (LR.comp (LR.whole _ _) (lrV_get c74_len g_9)) (lrF_get (cI_len .i64) g_12)) (by omega))) ?_
        refine rn 5 rfl ?_
        refine ci hF rfl (fun c_13 hF => ?_) (fun c_13 hF => ?_)
        · obtain ⟨v_14, g_15, hF⟩ := bind_some hF
          refine rn 5 rfl ?_
          refine W.o (e_iaddrV hs 1 rfl rfl rfl g_15) ?_
          obtain ⟨g_16, hF⟩ := grd_some hF
          refine W.o (e_iaddrA rfl (SH.gv hs 1 rfl g_15) rfl g_16) ?_
          obtain ⟨y_17, g_18⟩ := ix_in v_14 g_16 rfl
          refine slv hs 1 rfl rfl g_15 rfl (LR.cast (LR.comp (LR.comp (LR.whole _ _) (lrV_set c74_len g_15 (aset v_14 1 (IntKind.wrap .i64 (t12_ + 1))))) (lrF_set (cI_len .i64) g_18 (IntKind.wrap .i64 (t12_ + 1)))) (by omega)) ((cI_len .i64) _) rfl ((cI_len .i64) _) ((cI_one .i64) _) rfl fun st hs => ?_
          refine rn 2 rfl ?_
          exact ih (.p1 l around t10_ t11_ (IntKind.wrap .i64 (t12_ + 1)) (vset out (IntKind.wrap .i64 (((ls out).length : Int) - 1)) (aset v_14 1 (IntKind.wrap .i64 (t12_ + 1))))) _ hF K Ls hK _ _ io0 ⟨rfl, rfl, (show rvV 2 out io0 = rvV 2 (vset out (IntKind.wrap .i64 (((ls out).length : Int) - 1)) (aset v_14 1 (IntKind.wrap .i64 (t12_ + 1)))) io0 by simp only [rvV_vset]), rfl, rfl, rfl, trivial⟩ (hs.p 2 [1] rfl)
        · exact ih (.p2 l around t12_ t10_ t11_ t12_ out) _ hF K Ls hK _ _ io0 ⟨rfl, rfl, rfl, rfl, rfl, rfl, rfl, trivial⟩ (hs.p 2 [1] rfl)
      · refine wfx 24 rfl c_7 ?_
        refine rn 12 rfl ?_
        refine cf rfl rfl ?_
        exact ih (.p2 l around t12_ t10_ t11_ t12_ out) _ hF K Ls hK _ _ io0 ⟨rfl, rfl, rfl, rfl, rfl, rfl, rfl, trivial⟩ (hs.p 2 [1] rfl)
  · refine rn 1 rfl ?_
    refine W.o (e_lenV hs 0 rfl rfl) ?_
    refine rn 1 rfl ?_
    exact ih (.p3 l around ((ls out).length : Int) 0 out) _ hF K Ls hK _ _ io0 ⟨rfl, rfl, rfl, rfl, rfl, trivial⟩ hs
 | p2 l around i t10_ t11_ t12_ out =>
  dsimp only at hF
  intro K Ls hK tm st io0 hf hs
  refine en hf ?_
  refine rn 4 rfl ?_
  refine W.o (e_build (z := [(.int .i64 0), (.int .i64 0)]) (cs := c74 (aset (aset (Arr.rep 2 0) 0 i) 1 (IntKind.wrap .i64 (i + 1)))) (pk_cons (cs := cI .i64 i) rfl rfl ((cI_len .i64) _) (by decide) (pk_cons (cs := cI .i64 (IntKind.wrap .i64 (i + 1))) rfl rfl ((cI_len .i64) _) (by decide) pk_nil)) (show fillA (c74 (Arr.rep 2 0)) _ = _ from (fl_cons (lrF_set (i := 0) (x := 0) (cI_len .i64) rfl i) (((cI_len .i64) _).trans ((cI_len .i64) _).symm) (fl_cons (lrF_set (i := 1) (x := 0) (cI_len .i64) rfl (IntKind.wrap .i64 (i + 1))) (((cI_len .i64) _).trans ((cI_len .i64) _).symm) (fl_nil _))))) ?_
  refine bs (f := v74) ([(aset (aset (Arr.rep 2 0) 0 i) 1 (IntKind.wrap .i64 (i + 1)))] : List (Arr 2 Int)) hs rfl rfl rfl rfl fun st b_19 hs => ?_
  obtain ⟨g_20, hF⟩ := grd_some hF
  refine apV (f := v74) (c := c74) (ys := ls (some ([(aset (aset (Arr.rep 2 0) 0 i) 1 (IntKind.wrap .i64 (i + 1)))] : List (Arr 2 Int)))) hs 1 rfl rfl (ae_rd (rd_W (o := (some ([(aset (aset (Arr.rep 2 0) 0 i) 1 (IntKind.wrap .i64 (i + 1)))] : List (Arr 2 Int)))) (id := b_19) rfl)) g_20 c74_len (fun _ => rfl) (fun _ => rfl) fun st b_21 hs => ?_
  refine rn 3 rfl ?_
  exact ih (.p1 l around t10_ t11_ (IntKind.wrap .i64 (t12_ + 1)) (sapp out (ls (some ([(aset (aset (Arr.rep 2 0) 0 i) 1 (IntKind.wrap .i64 (i + 1)))] : List (Arr 2 Int)))))) _ hF K Ls hK _ _ b_21 ⟨rfl, rfl, rfl, rfl, rfl, rfl, trivial⟩ (hs.p 2 [1] rfl)
 | p3 l around t53_ t54_ out =>
  dsimp only at hF
  intro K Ls hK tm st io0 hf hs
  refine en hf ?_
  refine lp ?_
  refine rn 1 rfl ?_
  refine ci hF rfl (fun c_22 hF => ?_) (fun c_22 hF => ?_)
  · refine rn 2 rfl ?_
    have h0 := hs
    refine dr0 ?_
    obtain ⟨v_23, g_24, hF⟩ := bind_some hF
    refine dn 4 rfl ?_
    refine de rfl (e_iaddrV h0 0 rfl rfl rfl g_24) ?_
    obtain ⟨g_25, hF⟩ := grd_some hF
    refine de rfl (e_iaddrA rfl (SH.gv h0 0 rfl g_24) rfl g_25) ?_
    obtain ⟨v_26, g_27, hF⟩ := bind_some hF
    refine de rfl (e_load1 rfl (SH.gv h0 0 rfl g_24) (LR.cast (LR.comp (LR.comp (LR.whole _ _) (lrV_get c74_len g_24)) (lrF_get (cI_len .i64) g_27)) (by omega))) ?_
    obtain ⟨v_28, g_29, hF⟩ := bind_some hF
    refine dn 5 rfl ?_
    refine de rfl (e_iaddrV h0 0 rfl rfl rfl g_29) ?_
    obtain ⟨g_30, hF⟩ := grd_some hF
    refine de rfl (e_iaddrA rfl (SH.gv h0 0 rfl g_29) rfl g_30) ?_
    obtain ⟨v_31, g_32, hF⟩ := bind_some hF
    refine de rfl (e_load1 rfl (SH.gv h0 0 rfl g_29) (LR.cast (LR.comp (LR.comp (LR.whole _ _) (lrV_get c74_len g_29)) (lrF_get (cI_len .i64) g_32)) (by omega))) ?_
    refine dn 3 rfl ?_
    refine de rfl (e_len (rd_V rfl)) ?_
    refine dn 1 rfl ?_
    refine de rfl (e_build (z := [(.int .i64 0), (.int .i64 0)]) (cs := c74 (aset (aset (Arr.rep 2 0) 0 (if 0 > (IntKind.wrap .i64 (v_26 - around)) then 0 else (IntKind.wrap .i64 (v_26 - around)))) 1 (if ((ls l).length : Int) < (IntKind.wrap .i64 (v_31 + around)) then ((ls l).length : Int) else (IntKind.wrap .i64 (v_31 + around))))) (pk_cons (cs := cI .i64 (if 0 > (IntKind.wrap .i64 (v_26 - around)) then 0 else (IntKind.wrap .i64 (v_26 - around)))) rfl rfl ((cI_len .i64) _) (by decide) (pk_cons (cs := cI .i64 (if ((ls l).length : Int) < (IntKind.wrap .i64 (v_31 + around)) then ((ls l).length : Int) else (IntKind.wrap .i64 (v_31 + around)))) rfl rfl ((cI_len .i64) _) (by decide) pk_nil)) (show fillA (c74 (Arr.rep 2 0)) _ = _ from (fl_cons (lrF_set (i := 0) (x := 0) (cI_len .i64) rfl (if 0 > (IntKind.wrap .i64 (v_26 - around)) then 0 else (IntKind.wrap .i64 (v_26 - around)))) (((cI_len .i64) _).trans ((cI_len .i64) _).symm) (fl_cons (lrF_set (i := 1) (x := 0) (cI_len .i64) rfl (if ((ls l).length : Int) < (IntKind.wrap .i64 (v_31 + around)) then ((ls l).length : Int) else (IntKind.wrap .i64 (v_31 + around)))) (((cI_len .i64) _).trans ((cI_len .i64) _).symm) (fl_nil _))))) ?_
    obtain ⟨v_33, g_34, hF⟩ := bind_some hF
    refine de rfl (e_iaddrV h0 0 rfl rfl rfl g_34) ?_
    refine dz ?_
    refine slv hs 0 rfl rfl g_34 rfl (LR.cast (LR.comp (LR.whole _ _) (lrV_set c74_len g_34 (aset (aset (Arr.rep 2 0) 0 (if 0 > (IntKind.wrap .i64 (v_26 - around)) then 0 else (IntKind.wrap .i64 (v_26 - around)))) 1 (if ((ls l).length : Int) < (IntKind.wrap .i64 (v_31 + around)) then ((ls l).length : Int) else (IntKind.wrap .i64 (v_31 + around)))))) (by omega)) (c74_len _) rfl (c74_len _) (c74_one _) rfl fun st hs => ?_
    refine rn 2 rfl ?_
    exact ih (.p3 l around t53_ (IntKind.wrap .i64 (t54_ + 1)) (vset out t54_ (aset (aset (Arr.rep 2 0) 0 (if 0 > (IntKind.wrap .i64 (v_26 - around)) then 0 else (IntKind.wrap .i64 (v_26 - around)))) 1 (if ((ls l).length : Int) < (IntKind.wrap .i64 (v_31 + around)) then ((ls l).length : Int) else (IntKind.wrap .i64 (v_31 + around)))))) _ hF K Ls hK _ _ io0 ⟨rfl, rfl, (show rvV 2 out io0 = rvV 2 (vset out t54_ (aset (aset (Arr.rep 2 0) 0 (if 0 > (IntKind.wrap .i64 (v_26 - around)) then 0 else (IntKind.wrap .i64 (v_26 - around)))) 1 (if ((ls l).length : Int) < (IntKind.wrap .i64 (v_31 + around)) then ((ls l).length : Int) else (IntKind.wrap .i64 (v_31 + around))))) io0 by simp only [rvV_vset]), rfl, rfl, trivial⟩ hs
  · refine rn 2 rfl ?_
    cases hF
    exact rK (rlt rl0) (hK _ _ (hs.p 1 [0] rfl)) rfl
noncomputable def F47 (l : Sl T54) (around : Int) : Option (Sl (Arr 2 Int)) :=
 (G47 (.p1 l around l ((ls l).length : Int) 0 none))
theorem d47 (l : Sl T54) (around : Int) (r : Sl (Arr 2 Int)) (hF : F47 l around = some r) : ∀ (K : AV → Store → Prop) (Ls : List Asn) (st : Store), SH st Ls → (∀ st id, SH st (rvA c74 id r :: Ls) → K (rvV 2 r id) st) → XCall Tryd.prog gE 47 [slV 3 v54 l, AV.int .i64 around] st K := by
 unfold F47 at hF
 intro K Ls st hs hK
 refine bK k47 rfl ?_
 refine rn 3 rfl ?_
 refine W.o (e_len (rd_V rfl)) ?_
 refine rn 1 rfl ?_
 have hs := hs.rvNil (α := Arr 2 Int) c74
 exact w47 (.p1 l around l ((ls l).length : Int) 0 none) _ hF K Ls hK _ _ 0 ⟨rfl, rfl, rfl, rfl, rfl, rfl, trivial⟩ hs
/-! ### 49: paddock/lines.counted -/
def C49_20 : ACode := .s (.ops [q 14 (.faddr 0 7), q 15 (.load1 14), q 16 (.mv 1), q 17 (.binI .neq 15 16)]) (.cond 17 (.ops [q 18 (.mv 5), q 19 (.binI .add 18 (ki 1)), q 5 (.mv 19)]) .skip)
def C49_10 : ACode := .s (.ops [q 11 (.binI .lss 10 9)]) (.s (.cond 11 .skip (.exit 0)) (.s (.block 1 (.s (.ops [q 12 (.iaddrL 3 8 10), q 13 (.loadN 3 12), q 7 (.alloc [(.int .u8 0), (.str []), (.bool false)]), q0 (.store 3 7 13)]) C49_20)) (.ops [q 20 (.binI .add 10 (ki 1)), q 10 (.mv 20)])))
def C49_26 : ACode := .s (.ops [q 21 (.mv 5), q 4 (.mv 21)]) .ret
def C49_1 : ACode := .s (.ops [q 4 (.mv (ki 0))]) (.s (.ops [q 5 (.mv (ki 0))]) (.s (.s (.ops [q 8 (.mv 0), q 9 (.len 8), q 10 (.mv (ki 0))]) (.block 0 (.loop C49_10))) C49_26))
def R49 : List RA := [(.tmp 4)]
theorem k49 : compF Tryd.prog (muL []) 49 = some ⟨22, C49_1, R49⟩ := by kernel_rfl
noncomputable abbrev X49 (r : Int) : Cx := cD Tryd.prog gE 22 R49 (AV.int .i64 r)
inductive St49 where
 | p1 (but : Int) (n : Int) (t8_ : Sl T54) (t9_ : Int) (t10_ : Int)
noncomputable def G49 : St49 → Option Int
 | .p1 but n t8_ t9_ t10_ =>
  (if (decide (t10_ < t9_)) = true then
   (ix (ls t8_) t10_ >>= fun v_2 =>
    (if (v_2.Kind != but) = true then
     (G49 (.p1 but (IntKind.wrap .i64 (n + 1)) t8_ t9_ (IntKind.wrap .i64 (t10_ + 1))))
    else
     (G49 (.p1 but n t8_ t9_ (IntKind.wrap .i64 (t10_ + 1))))))
  else
   (some n))
 partial_fixpoint
def M49 (x : St49) (r : Int) : Prop := match x with
 | .p1 but n t8_ t9_ t10_ => ∀ (tm : Fr) (st : Store), Frm tm [(1, AV.int .u8 but), (5, AV.int .i64 n), (8, slV 3 v54 t8_), (9, AV.int .i64 t9_), (10, AV.int .i64 t10_)] → SH st [] → W (X49 r) [.lp C49_10, .blk 0, .code C49_26] tm st
theorem w49 : ∀ (x : St49) (r : Int), G49 x = some r → M49 x r := by
 refine G49.partial_correctness M49 ?_
 intro g ih x r hF
 cases x with
 | p1 but n t8_ t9_ t10_ =>
  dsimp only at hF
  intro tm st hf hs
  refine en hf ?_
  refine lp ?_
  refine rn 1 rfl ?_
  refine ci hF rfl (fun c_1 hF => ?_) (fun c_1 hF => ?_)
  · obtain ⟨v_2, g_3, hF⟩ := bind_some hF
    refine rn 0 rfl ?_
    refine W.o (e_iaddrL (rd_V rfl) rfl g_3) ?_
    refine W.o (lND (s := c54 v_2) rfl rfl rfl) ?_
    refine al hs (cs := c54 ({ Kind := 0, Line := ({ Text := [], Whole := false } : T25) } : T54)) rfl fun st b_4 hs => ?_
    refine sr hs 0 rfl rfl rfl (cs' := c54 v_2) rfl rfl fun st hs => ?_
    refine rn 0 rfl ?_
    refine W.o (e_faddr rfl (hs.g 0 rfl)) ?_
    refine W.o (l1 rfl (hs.g 0 rfl) rfl) ?_
    refine rn 2 rfl ?_
    refine ci hF rfl (fun c_5 hF => ?_) (fun c_5 hF => ?_)
    · refine rn 5 rfl ?_
      exact ih (.p1 but (IntKind.wrap .i64 (n + 1)) t8_ t9_ (IntKind.wrap .i64 (t10_ + 1))) _ hF _ _ ⟨rfl, rfl, rfl, rfl, rfl, trivial⟩ (hs.p 1 [] rfl)
    · refine rn 2 rfl ?_
      exact ih (.p1 but n t8_ t9_ (IntKind.wrap .i64 (t10_ + 1))) _ hF _ _ ⟨rfl, rfl, rfl, rfl, rfl, trivial⟩ (hs.p 1 [] rfl)
  · refine rn 2 rfl ?_
    cases hF
    exact rD (rlt rl0) rfl
noncomputable def F49 (l : Sl T54) (but : Int) : Option Int :=
 (G49 (.p1 but 0 l ((ls l).length : Int) 0))
theorem d49 (l : Sl T54) (but : Int) (r : Int) (hF : F49 l but = some r) : DFun Tryd.prog gE 49 [slV 3 v54 l, AV.int .u8 but] (AV.int .i64 r) := by
 unfold F49 at hF
 refine bD k49 rfl ?_
 have hs : SH [] [] := SH.nil
 generalize ([] : Store) = st at hs ⊢
 refine rn 3 rfl ?_
 refine W.o (e_len (rd_V rfl)) ?_
 refine rn 1 rfl ?_
 exact w49 (.p1 but 0 l ((ls l).length : Int) 0) _ hF _ _ ⟨rfl, rfl, rfl, rfl, rfl, trivial⟩ hs
/-! ### 48: paddock/lines.place -/
def C48_1 : ACode := .s (.ops [q 4 (.mv (.c (.str [])))]) (.s (.s (.ops [q 5 (.mv 1)]) (.block 0 (.s (.ops [q 7 (.binI .eql 5 (ki 0)), q 6 (.mv 7)]) (.cond 6 (.s (.ops [q 8 (.mv 0), qc 9 58 [8], q 10 (.binS .add 9 (.c (.str [44, 48]))), q 4 (.mv 10)]) .ret) (.s (.ops [q 12 (.binI .eql 5 (ki 1)), q 11 (.mv 12)]) (.cond 11 (.s (.ops [q 13 (.mv 0), q 14 (.binI .add 13 (ki 1)), qc 15 58 [14], q 4 (.mv 15)]) .ret) .skip)))))) (.s (.ops [q 16 (.mv 0), q 17 (.binI .add 16 (ki 1)), qc 18 58 [17], q 19 (.binS .add 18 (.c (.str [44]))), q 20 (.mv 1), qc 21 58 [20], q 22 (.binS .add 19 21), q 4 (.mv 22)]) .ret))
def R48 : List RA := [(.tmp 4)]
theorem k48 : compF Tryd.prog (muL []) 48 = some ⟨23, C48_1, R48⟩ := by kernel_rfl
noncomputable abbrev X48 (r : Str) : Cx := cD Tryd.prog gE 23 R48 (AV.str r)
noncomputable def F48 (ahead : Int) (n : Int) : Option Str :=
 (if (n == 0) = true then
  (itoaF ahead >>= fun r_2 =>
   (if (r_2).length + (([44, 48] : Str)).length ≤ 9223372036854775807 then
    (some (r_2 ++ ([44, 48] : Str)))
   else none))
 else
  (if (n == 1) = true then
   (itoaF (IntKind.wrap .i64 (ahead + 1)) >>= fun r_6 =>
    (some r_6))
  else
   (itoaF (IntKind.wrap .i64 (ahead + 1)) >>= fun r_8 =>
    (if (r_8).length + (([44] : Str)).length ≤ 9223372036854775807 then
     (itoaF n >>= fun r_11 =>
      (if (r_8 ++ ([44] : Str)).length + (r_11).length ≤ 9223372036854775807 then
       (some ((r_8 ++ ([44] : Str)) ++ r_11))
      else none))
    else none))))
theorem d48 (ahead : Int) (n : Int) (r : Str) (hF : F48 ahead n = some r) : DFun Tryd.prog gE 48 [AV.int .i64 ahead, AV.int .i64 n] (AV.str r) := by
 unfold F48 at hF
 refine bD k48 rfl ?_
 have hs : SH [] [] := SH.nil
 generalize ([] : Store) = st at hs ⊢
 refine rn 4 rfl ?_
 refine ci hF rfl (fun c_1 hF => ?_) (fun c_1 hF => ?_)
 · obtain ⟨r_2, g_3, hF⟩ := bind_some hF
   refine rn 1 rfl ?_
   refine df (dItoa ahead _ g_3) rfl ?_
   obtain ⟨g_4, hF⟩ := grd_some hF
   refine W.o (e_str rfl rfl (op_cat _ _ g_4)) ?_
   refine rn 1 rfl ?_
   cases hF
   exact rD (rlt rl0) rfl
 · refine rn 2 rfl ?_
   refine ci hF rfl (fun c_5 hF => ?_) (fun c_5 hF => ?_)
   · obtain ⟨r_6, g_7, hF⟩ := bind_some hF
     refine rn 2 rfl ?_
     refine df (dItoa (IntKind.wrap .i64 (ahead + 1)) _ g_7) rfl ?_
     refine rn 1 rfl ?_
     cases hF
     exact rD (rlt rl0) rfl
   · obtain ⟨r_8, g_9, hF⟩ := bind_some hF
     refine rn 2 rfl ?_
     refine df (dItoa (IntKind.wrap .i64 (ahead + 1)) _ g_9) rfl ?_
     obtain ⟨g_10, hF⟩ := grd_some hF
     refine W.o (e_str rfl rfl (op_cat _ _ g_10)) ?_
     obtain ⟨r_11, g_12, hF⟩ := bind_some hF
     refine rn 1 rfl ?_
     refine df (dItoa n _ g_12) rfl ?_
     obtain ⟨g_13, hF⟩ := grd_some hF
     refine W.o (e_str rfl rfl (op_cat _ _ g_13)) ?_
     refine rn 1 rfl ?_
     cases hF
     exact rD (rlt rl0) rfl
/-! ### 64: paddock/paddockref01.digits -/
def C64_1 : ACode := .s (.ops [q 2 (.mv (.c (.str [])))]) (.s (.s (.ops [q 3 (.mv 0), q 4 (.binI .lss 3 (ki 10))]) (.cond 4 (.s (.ops [q 5 (.mv 0), q 6 (.binI .add (ki 48) 5), q 7 (.cvI .u8 6), q 8 (.bslice 1 1 false [(.int .u8 0)] [(0, (1, 7))] false), q 9 (.b2s 8), q 2 (.mv 9)]) .ret) .skip)) (.s (.ops [q 10 (.mv 0), q 11 (.binI .quo 10 (ki 10)), qc 12 64 [11], q 13 (.mv 0), q 14 (.binI .rem 13 (ki 10)), qc 15 64 [14], q 16 (.binS .add 12 15), q 2 (.mv 16)]) .ret))
def R64 : List RA := [(.tmp 2)]
theorem k64 : compF Tryd.prog (muL []) 64 = some ⟨17, C64_1, R64⟩ := by kernel_rfl
noncomputable abbrev X64 (r : Str) : Cx := cD Tryd.prog gE 17 R64 (AV.str r)
inductive St64 where
 | e (n : Int)
noncomputable def G64 : St64 → Option Str
 | .e n =>
  (if (decide (n < 10)) = true then
   (some (toBs (ls (some ([IntKind.wrap .u8 (IntKind.wrap .i64 (48 + n))] : List Int)))))
  else
   (G64 (.e (IntKind.wrap .i64 (Int.tdiv n 10))) >>= fun r_3 =>
    (G64 (.e (Int.tmod n 10)) >>= fun r_5 =>
     (if (r_3).length + (r_5).length ≤ 9223372036854775807 then
      (some (r_3 ++ r_5))
     else none))))
 partial_fixpoint
def M64 (x : St64) (r : Str) : Prop := match x with
 | .e n => DFun Tryd.prog gE 64 [AV.int .i64 n] (AV.str r)
theorem w64 : ∀ (x : St64) (r : Str), G64 x = some r → M64 x r := by
 refine G64.partial_correctness M64 ?_
 intro g ih x r hF
 cases x with
 | e n =>
  dsimp only at hF
  refine bD k64 rfl ?_
  have hs : SH [] [] := SH.nil
  generalize ([] : Store) = st at hs ⊢
  refine rn 3 rfl ?_
  refine ci hF rfl (fun c_1 hF => ?_) (fun c_1 hF => ?_)
  · refine rn 3 rfl ?_
    refine bs (f := AV.int .u8) ([IntKind.wrap .u8 (IntKind.wrap .i64 (48 + n))] : List Int) hs rfl rfl rfl rfl fun st b_2 hs => ?_
    refine W.o (e_b2s (rd_W (o := (some ([IntKind.wrap .u8 (IntKind.wrap .i64 (48 + n))] : List Int))) (id := b_2) rfl)) ?_
    refine rn 1 rfl ?_
    cases hF
    exact rD (rlt rl0) rfl
  · refine rn 1 rfl ?_
    refine W.o (e_bin rfl rfl (op_quo _ _ _ (by decide))) ?_
    obtain ⟨r_3, g_4, hF⟩ := bind_some hF
    refine df (ih (.e (IntKind.wrap .i64 (Int.tdiv n 10))) _ g_4) rfl ?_
    refine rn 1 rfl ?_
    refine W.o (e_bin rfl rfl (op_rem _ _ _ (by decide))) ?_
    obtain ⟨r_5, g_6, hF⟩ := bind_some hF
    refine df (ih (.e (Int.tmod n 10)) _ g_6) rfl ?_
    obtain ⟨g_7, hF⟩ := grd_some hF
    refine W.o (e_str rfl rfl (op_cat _ _ g_7)) ?_
    refine rn 1 rfl ?_
    cases hF
    exact rD (rlt rl0) rfl
noncomputable def F64 (n : Int) : Option Str := G64 (.e n)
theorem d64 (n : Int) (r : Str) (hF : F64 n = some r) : DFun Tryd.prog gE 64 [AV.int .i64 n] (AV.str r) := by
 exact w64 (.e n) r hF
/-! ### 59: paddock/paddockref01.spot -/
def C59_1 : ACode := .s (.ops [q 4 (.mv (.c (.str [])))]) (.s (.s (.ops [q 5 (.mv 1)]) (.block 0 (.s (.ops [q 7 (.binI .eql 5 (ki 0)), q 6 (.mv 7)]) (.cond 6 (.s (.ops [q 8 (.mv 0), qc 9 64 [8], q 10 (.binS .add 9 (.c (.str [44, 48]))), q 4 (.mv 10)]) .ret) (.s (.ops [q 12 (.binI .eql 5 (ki 1)), q 11 (.mv 12)]) (.cond 11 (.s (.ops [q 13 (.mv 0), q 14 (.binI .add 13 (ki 1)), qc 15 64 [14], q 4 (.mv 15)]) .ret) .skip)))))) (.s (.ops [q 16 (.mv 0), q 17 (.binI .add 16 (ki 1)), qc 18 64 [17], q 19 (.binS .add 18 (.c (.str [44]))), q 20 (.mv 1), qc 21 64 [20], q 22 (.binS .add 19 21), q 4 (.mv 22)]) .ret))
def R59 : List RA := [(.tmp 4)]
theorem k59 : compF Tryd.prog (muL []) 59 = some ⟨23, C59_1, R59⟩ := by kernel_rfl
noncomputable abbrev X59 (r : Str) : Cx := cD Tryd.prog gE 23 R59 (AV.str r)
noncomputable def F59 (ahead : Int) (n : Int) : Option Str :=
 (if (n == 0) = true then
  (F64 ahead >>= fun r_2 =>
   (if (r_2).length + (([44, 48] : Str)).length ≤ 9223372036854775807 then
    (some (r_2 ++ ([44, 48] : Str)))
   else none))
 else
  (if (n == 1) = true then
   (F64 (IntKind.wrap .i64 (ahead + 1)) >>= fun r_6 =>
    (some r_6))
  else
   (F64 (IntKind.wrap .i64 (ahead + 1)) >>= fun r_8 =>
    (if (r_8).length + (([44] : Str)).length ≤ 9223372036854775807 then
     (F64 n >>= fun r_11 =>
      (if (r_8 ++ ([44] : Str)).length + (r_11).length ≤ 9223372036854775807 then
       (some ((r_8 ++ ([44] : Str)) ++ r_11))
      else none))
    else none))))
theorem d59 (ahead : Int) (n : Int) (r : Str) (hF : F59 ahead n = some r) : DFun Tryd.prog gE 59 [AV.int .i64 ahead, AV.int .i64 n] (AV.str r) := by
 unfold F59 at hF
 refine bD k59 rfl ?_
 have hs : SH [] [] := SH.nil
 generalize ([] : Store) = st at hs ⊢
 refine rn 4 rfl ?_
 refine ci hF rfl (fun c_1 hF => ?_) (fun c_1 hF => ?_)
 · obtain ⟨r_2, g_3, hF⟩ := bind_some hF
   refine rn 1 rfl ?_
   refine df (d64 ahead _ g_3) rfl ?_
   obtain ⟨g_4, hF⟩ := grd_some hF
   refine W.o (e_str rfl rfl (op_cat _ _ g_4)) ?_
   refine rn 1 rfl ?_
   cases hF
   exact rD (rlt rl0) rfl
 · refine rn 2 rfl ?_
   refine ci hF rfl (fun c_5 hF => ?_) (fun c_5 hF => ?_)
   · obtain ⟨r_6, g_7, hF⟩ := bind_some hF
     refine rn 2 rfl ?_
     refine df (d64 (IntKind.wrap .i64 (ahead + 1)) _ g_7) rfl ?_
     refine rn 1 rfl ?_
     cases hF
     exact rD (rlt rl0) rfl
   · obtain ⟨r_8, g_9, hF⟩ := bind_some hF
     refine rn 2 rfl ?_
     refine df (d64 (IntKind.wrap .i64 (ahead + 1)) _ g_9) rfl ?_
     obtain ⟨g_10, hF⟩ := grd_some hF
     refine W.o (e_str rfl rfl (op_cat _ _ g_10)) ?_
     obtain ⟨r_11, g_12, hF⟩ := bind_some hF
     refine rn 1 rfl ?_
     refine df (d64 n _ g_12) rfl ?_
     obtain ⟨g_13, hF⟩ := grd_some hF
     refine W.o (e_str rfl rfl (op_cat _ _ g_13)) ?_
     refine rn 1 rfl ?_
     cases hF
     exact rD (rlt rl0) rfl
/-! ### 60: paddock/paddockref01.counted -/
def C60_20 : ACode := .s (.ops [q 16 (.faddr 0 9), q 17 (.load1 16), q 18 (.mv 1), q 19 (.binI .eql 17 18), q 20 (.mv 19), (q 21 (.faddr 0 9)).n 20, (q 22 (.load1 21)).n 20, (q 23 (.mv 2)).n 20, (q 24 (.binI .eql 22 23)).n 20, q 25 (.pick 20 (.c (.bool true)) 24)]) (.cond 25 (.ops [q 26 (.mv 7), q 27 (.binI .add 26 (ki 1)), q 7 (.mv 27)]) .skip)
def C60_10 : ACode := .s (.ops [q 13 (.binI .lss 12 11)]) (.s (.cond 13 .skip (.exit 0)) (.s (.block 1 (.s (.ops [q 14 (.iaddrL 3 10 12), q 15 (.loadN 3 14), q 9 (.alloc [(.int .u8 0), (.str []), (.bool false)]), q0 (.store 3 9 15)]) C60_20)) (.ops [q 28 (.binI .add 12 (ki 1)), q 12 (.mv 28)])))
def C60_26 : ACode := .s (.ops [q 29 (.mv 7), q 6 (.mv 29)]) .ret
def C60_1 : ACode := .s (.ops [q 6 (.mv (ki 0))]) (.s (.ops [q 7 (.mv (ki 0))]) (.s (.s (.ops [q 10 (.mv 0), q 11 (.len 10), q 12 (.mv (ki 0))]) (.block 0 (.loop C60_10))) C60_26))
def R60 : List RA := [(.tmp 6)]
theorem k60 : compF Tryd.prog (muL []) 60 = some ⟨30, C60_1, R60⟩ := by kernel_rfl
noncomputable abbrev X60 (r : Int) : Cx := cD Tryd.prog gE 30 R60 (AV.int .i64 r)
inductive St60 where
 | p1 (x_ : Int) (y : Int) (n : Int) (t10_ : Sl T54) (t11_ : Int) (t12_ : Int)
noncomputable def G60 : St60 → Option Int
 | .p1 x_ y n t10_ t11_ t12_ =>
  (if (decide (t12_ < t11_)) = true then
   (ix (ls t10_) t12_ >>= fun v_2 =>
    (if (v_2.Kind == x_) = true then
     (G60 (.p1 x_ y (IntKind.wrap .i64 (n + 1)) t10_ t11_ (IntKind.wrap .i64 (t12_ + 1))))
    else
     (if (v_2.Kind == y) = true then
      (G60 (.p1 x_ y (IntKind.wrap .i64 (n + 1)) t10_ t11_ (IntKind.wrap .i64 (t12_ + 1))))
     else
      (G60 (.p1 x_ y n t10_ t11_ (IntKind.wrap .i64 (t12_ + 1)))))))
  else
   (some n))
 partial_fixpoint
def M60 (x : St60) (r : Int) : Prop := match x with
 | .p1 x_ y n t10_ t11_ t12_ => ∀ (tm : Fr) (st : Store), Frm tm [(1, AV.int .u8 x_), (2, AV.int .u8 y), (7, AV.int .i64 n), (10, slV 3 v54 t10_), (11, AV.int .i64 t11_), (12, AV.int .i64 t12_)] → SH st [] → W (X60 r) [.lp C60_10, .blk 0, .code C60_26] tm st
theorem w60 : ∀ (x : St60) (r : Int), G60 x = some r → M60 x r := by
 refine G60.partial_correctness M60 ?_
 intro g ih x r hF
 cases x with
 | p1 x_ y n t10_ t11_ t12_ =>
  dsimp only at hF
  intro tm st hf hs
  refine en hf ?_
  refine lp ?_
  refine rn 1 rfl ?_
  refine ci hF rfl (fun c_1 hF => ?_) (fun c_1 hF => ?_)
  · obtain ⟨v_2, g_3, hF⟩ := bind_some hF
    refine rn 0 rfl ?_
    refine W.o (e_iaddrL (rd_V rfl) rfl g_3) ?_
    refine W.o (lND (s := c54 v_2) rfl rfl rfl) ?_
    refine al hs (cs := c54 ({ Kind := 0, Line := ({ Text := [], Whole := false } : T25) } : T54)) rfl fun st b_4 hs => ?_
    refine sr hs 0 rfl rfl rfl (cs' := c54 v_2) rfl rfl fun st hs => ?_
    refine rn 0 rfl ?_
    refine W.o (e_faddr rfl (hs.g 0 rfl)) ?_
    refine W.o (l1 rfl (hs.g 0 rfl) rfl) ?_
    refine rn 3 rfl ?_
    refine bi hF (fun c_5 hF => ?_) (fun c_5 hF => ?_)
    · refine wfx 20 rfl c_5 ?_
      refine rn 5 rfl ?_
      refine ct rfl rfl ?_
      refine rn 5 rfl ?_
      exact ih (.p1 x_ y (IntKind.wrap .i64 (n + 1)) t10_ t11_ (IntKind.wrap .i64 (t12_ + 1))) _ hF _ _ ⟨rfl, rfl, rfl, rfl, rfl, rfl, trivial⟩ (hs.p 1 [] rfl)
    · refine wfx 20 rfl c_5 ?_
      refine W.on rfl rfl ?_
      refine W.o (e_faddr rfl (hs.g 0 rfl)) ?_
      refine W.on rfl rfl ?_
      refine W.o (l1 rfl (hs.g 0 rfl) rfl) ?_
      refine rn 3 rfl ?_
      refine ci hF rfl (fun c_6 hF => ?_) (fun c_6 hF => ?_)
      · refine rn 5 rfl ?_
        exact ih (.p1 x_ y (IntKind.wrap .i64 (n + 1)) t10_ t11_ (IntKind.wrap .i64 (t12_ + 1))) _ hF _ _ ⟨rfl, rfl, rfl, rfl, rfl, rfl, trivial⟩ (hs.p 1 [] rfl)
      · refine rn 2 rfl ?_
        exact ih (.p1 x_ y n t10_ t11_ (IntKind.wrap .i64 (t12_ + 1))) _ hF _ _ ⟨rfl, rfl, rfl, rfl, rfl, rfl, trivial⟩ (hs.p 1 [] rfl)
  · refine rn 2 rfl ?_
    cases hF
    exact rD (rlt rl0) rfl
noncomputable def F60 (l : Sl T54) (x_ : Int) (y : Int) : Option Int :=
 (G60 (.p1 x_ y 0 l ((ls l).length : Int) 0))
theorem d60 (l : Sl T54) (x_ : Int) (y : Int) (r : Int) (hF : F60 l x_ y = some r) : DFun Tryd.prog gE 60 [slV 3 v54 l, AV.int .u8 x_, AV.int .u8 y] (AV.int .i64 r) := by
 unfold F60 at hF
 refine bD k60 rfl ?_
 have hs : SH [] [] := SH.nil
 generalize ([] : Store) = st at hs ⊢
 refine rn 3 rfl ?_
 refine W.o (e_len (rd_V rfl)) ?_
 refine rn 1 rfl ?_
 exact w60 (.p1 x_ y 0 l ((ls l).length : Int) 0) _ hF _ _ ⟨rfl, rfl, rfl, rfl, rfl, rfl, trivial⟩ hs
/-! ### 50: paddock/paddockref01.hunk -/
def C50_35 : ACode := .s (.ops [q 56 (.mv 7), q 57 (.faddr 1 9), q 58 (.faddr 0 57), q 59 (.load1 58), q 60 (.binS .add 56 59), q 61 (.binS .add 60 (.c (.str [10]))), q 7 (.mv 61)]) (.s (.ops [q 62 (.faddr 1 9), q 63 (.faddr 1 62), q 64 (.load1 63), q 65 (.un .not 64)]) (.cond 65 (.ops [q 66 (.mv 7), q 67 (.binS .add 66 (.c (.str [92, 32, 78, 111, 32, 110, 101, 119, 108, 105, 110, 101, 32, 97, 116, 32, 101, 110, 100, 32, 111, 102, 32, 102, 105, 108, 101, 10]))), q 7 (.mv 67)]) .skip))
def C50_20 : ACode := .s (.ops [q 42 (.iaddrL 3 38 40), q 43 (.loadN 3 42), q 9 (.alloc [(.int .u8 0), (.str []), (.bool false)]), q0 (.store 3 9 43)]) (.s (.s (.ops [q 44 (.faddr 0 9), q 45 (.load1 44)]) (.block 2 (.s (.ops [q 49 (.binI .eql 45 (ku 1)), q 48 (.mv 49)]) (.cond 48 (.ops [q 50 (.mv 7), q 51 (.binS .add 50 (.c (.str [32]))), q 7 (.mv 51)]) (.s (.ops [q 53 (.binI .eql 45 (ku 2)), q 52 (.mv 53)]) (.cond 52 (.ops [q 54 (.mv 7), q 55 (.binS .add 54 (.c (.str [45]))), q 7 (.mv 55)]) (.ops [q 46 (.mv 7), q 47 (.binS .add 46 (.c (.str [43]))), q 7 (.mv 47)]))))))) C50_35)
def C50_42 : ACode := .ops [q 68 (.binI .add 40 (ki 1)), q 40 (.mv 68)]
def C50_12 : ACode := .s (.ops [q 41 (.binI .lss 40 39)]) (.s (.cond 41 .skip (.exit 0)) (.s (.block 1 C50_20) C50_42))
def C50_43 : ACode := .s (.ops [q 69 (.mv 7), q 6 (.mv 69)]) .ret
def C50_1 : ACode := .s (.ops [q 6 (.mv (.c (.str [])))]) (.s (.draw [] 0 0 [q 10 (.mv 0), q 11 (.mv 1), q 12 (.slL 3 10 .none (.some 11)), qc 13 60 [12, (ku 1), (ku 2)], q 14 (.mv 0), q 15 (.mv 1), q 16 (.mv 2), q 17 (.slL 3 14 (.some 15) (.some 16)), qc 18 60 [17, (ku 1), (ku 2)], qc 19 59 [13, 18], q 20 (.binS .add (.c (.str [64, 64, 32, 45])) 19), q 7 (.mv 20)] []) (.s (.draw [] 0 0 [q 21 (.mv 7), q 22 (.binS .add 21 (.c (.str [32, 43]))), q 23 (.mv 0), q 24 (.mv 1), q 25 (.slL 3 23 .none (.some 24)), qc 26 60 [25, (ku 1), (ku 3)], q 27 (.mv 0), q 28 (.mv 1), q 29 (.mv 2), q 30 (.slL 3 27 (.some 28) (.some 29)), qc 31 60 [30, (ku 1), (ku 3)], qc 32 59 [26, 31], q 33 (.binS .add 22 32), q 34 (.binS .add 33 (.c (.str [32, 64, 64, 10]))), q 7 (.mv 34)] []) (.s (.s (.ops [q 35 (.mv 0), q 36 (.mv 1), q 37 (.mv 2), q 38 (.slL 3 35 (.some 36) (.some 37)), q 39 (.len 38), q 40 (.mv (ki 0))]) (.block 0 (.loop C50_12))) C50_43)))
def R50 : List RA := [(.tmp 6)]
theorem k50 : compF Tryd.prog (muL []) 50 = some ⟨70, C50_1, R50⟩ := by kernel_rfl
noncomputable abbrev X50 (r : Str) : Cx := cD Tryd.prog gE 70 R50 (AV.str r)
inductive St50 where
 | p1 (s : Str) (t38_ : Sl T54) (t39_ : Int) (t40_ : Int)
 | p2 (s : Str) (t38_ : Sl T54) (t39_ : Int) (t40_ : Int) (c : T54)
noncomputable def G50 : St50 → Option Str
 | .p1 s t38_ t39_ t40_ =>
  (if (decide (t40_ < t39_)) = true then
   (ix (ls t38_) t40_ >>= fun v_28 =>
    (if (v_28.Kind == 1) = true then
     (if (s).length + (([32] : Str)).length ≤ 9223372036854775807 then
      (G50 (.p2 (s ++ ([32] : Str)) t38_ t39_ t40_ v_28))
     else none)
    else
     (if (v_28.Kind == 2) = true then
      (if (s).length + (([45] : Str)).length ≤ 9223372036854775807 then
       (G50 (.p2 (s ++ ([45] : Str)) t38_ t39_ t40_ v_28))
      else none)
     else
      (if (s).length + (([43] : Str)).length ≤ 9223372036854775807 then
       (G50 (.p2 (s ++ ([43] : Str)) t38_ t39_ t40_ v_28))
      else none))))
  else
   (some s))
 | .p2 s t38_ t39_ t40_ c =>
  (if (s).length + (c.Line.Text).length ≤ 9223372036854775807 then
   (if (s ++ c.Line.Text).length + (([10] : Str)).length ≤ 9223372036854775807 then
    (if (!c.Line.Whole) = true then
     (if ((s ++ c.Line.Text) ++ ([10] : Str)).length + (([92, 32, 78, 111, 32, 110, 101, 119, 108, 105, 110, 101, 32, 97, 116, 32, 101, 110, 100, 32, 111, 102, 32, 102, 105, 108, 101, 10] : Str)).length ≤ 9223372036854775807 then
      (G50 (.p1 (((s ++ c.Line.Text) ++ ([10] : Str)) ++ ([92, 32, 78, 111, 32, 110, 101, 119, 108, 105, 110, 101, 32, 97, 116, 32, 101, 110, 100, 32, 111, 102, 32, 102, 105, 108, 101, 10] : Str)) t38_ t39_ (IntKind.wrap .i64 (t40_ + 1))))
     else none)
    else
     (G50 (.p1 ((s ++ c.Line.Text) ++ ([10] : Str)) t38_ t39_ (IntKind.wrap .i64 (t40_ + 1)))))
   else none)
  else none)
 partial_fixpoint
def M50 (x : St50) (r : Str) : Prop := match x with
 | .p1 s t38_ t39_ t40_ => ∀ (tm : Fr) (st : Store), Frm tm [(7, AV.str s), (38, slV 3 v54 t38_), (39, AV.int .i64 t39_), (40, AV.int .i64 t40_)] → SH st [] → W (X50 r) [.lp C50_12, .blk 0, .code C50_43] tm st
 | .p2 s t38_ t39_ t40_ c => ∀ (tm : Fr) (st : Store) (io0 : Nat), Frm tm [(7, AV.str s), (9, .ptr io0 0), (38, slV 3 v54 t38_), (39, AV.int .i64 t39_), (40, AV.int .i64 t40_)] → SH st [pt io0 (.cells (c54 c))] → W (X50 r) [.code C50_35, .blk 1, .code C50_42, .lp C50_12, .blk 0, .code C50_43] tm st
theorem w50 : ∀ (x : St50) (r : Str), G50 x = some r → M50 x r := by
 refine G50.partial_correctness M50 ?_
 intro g ih x r hF
 cases x with
 | p1 s t38_ t39_ t40_ =>
  dsimp only at hF
  intro tm st hf hs
  refine en hf ?_
  refine lp ?_
  refine rn 1 rfl ?_
  refine ci hF rfl (fun c_27 hF => ?_) (fun c_27 hF => ?_)
  · obtain ⟨v_28, g_29, hF⟩ := bind_some hF
    refine rn 0 rfl ?_
    refine W.o (e_iaddrL (rd_V rfl) rfl g_29) ?_
    refine W.o (lND (s := c54 v_28) rfl rfl rfl) ?_
    refine al hs (cs := c54 ({ Kind := 0, Line := ({ Text := [], Whole := false } : T25) } : T54)) rfl fun st b_30 hs => ?_
    refine sr hs 0 rfl rfl rfl (cs' := c54 v_28) rfl rfl fun st hs => ?_
    refine rn 0 rfl ?_
    refine W.o (e_faddr rfl (hs.g 0 rfl)) ?_
    refine W.o (l1 rfl (hs.g 0 rfl) rfl) ?_
    refine rn 2 rfl ?_
    refine ci hF rfl (fun c_31 hF => ?_) (fun c_31 hF => ?_)
    · obtain ⟨g_32, hF⟩ := grd_some hF
      refine rn 1 rfl ?_
      refine W.o (e_str rfl rfl (op_cat _ _ g_32)) ?_
      refine rj 1 2 rfl ?_
      exact ih (.p2 (s ++ ([32] : Str)) t38_ t39_ t40_ v_28) _ hF _ _ b_30 ⟨rfl, rfl, rfl, rfl, rfl, trivial⟩ hs
    · refine rn 2 rfl ?_
      refine ci hF rfl (fun c_33 hF => ?_) (fun c_33 hF => ?_)
      · obtain ⟨g_34, hF⟩ := grd_some hF
        refine rn 1 rfl ?_
        refine W.o (e_str rfl rfl (op_cat _ _ g_34)) ?_
        refine rj 1 2 rfl ?_
        exact ih (.p2 (s ++ ([45] : Str)) t38_ t39_ t40_ v_28) _ hF _ _ b_30 ⟨rfl, rfl, rfl, rfl, rfl, trivial⟩ hs
      · obtain ⟨g_35, hF⟩ := grd_some hF
        refine rn 1 rfl ?_
        refine W.o (e_str rfl rfl (op_cat _ _ g_35)) ?_
        refine rj 1 2 rfl ?_
        exact ih (.p2 (s ++ ([43] : Str)) t38_ t39_ t40_ v_28) _ hF _ _ b_30 ⟨rfl, rfl, rfl, rfl, rfl, trivial⟩ hs
  · refine rn 2 rfl ?_
    cases hF
    exact rD (rlt rl0) rfl
 | p2 s t38_ t39_ t40_ c =>
  dsimp only at hF
  intro tm st io0 hf hs
  refine en hf ?_
  refine rn 1 rfl ?_
  refine W.o (e_faddr rfl (hs.g 0 rfl)) ?_
  refine W.o (e_faddr rfl (hs.g 0 rfl)) ?_
  refine W.o (l1 rfl (hs.g 0 rfl) rfl) ?_
  obtain ⟨g_36, hF⟩ := grd_some hF
  refine W.o (e_str rfl rfl (op_cat _ _ g_36)) ?_
  obtain ⟨g_37, hF⟩ := grd_some hF
  refine W.o (e_str rfl rfl (op_cat _ _ g_37)) ?_
  refine rn 1 rfl ?_
  refine W.o (e_faddr rfl (hs.g 0 rfl)) ?_
  refine W.o (e_faddr rfl (hs.g 0 rfl)) ?_
  refine W.o (l1 rfl (hs.g 0 rfl) rfl) ?_
  refine rn 1 rfl ?_
  refine ci hF rfl (fun c_38 hF => ?_) (fun c_38 hF => ?_)
  · obtain ⟨g_39, hF⟩ := grd_some hF
    refine rn 1 rfl ?_
    refine W.o (e_str rfl rfl (op_cat _ _ g_39)) ?_
    refine rn 3 rfl ?_
    exact ih (.p1 (((s ++ c.Line.Text) ++ ([10] : Str)) ++ ([92, 32, 78, 111, 32, 110, 101, 119, 108, 105, 110, 101, 32, 97, 116, 32, 101, 110, 100, 32, 111, 102, 32, 102, 105, 108, 101, 10] : Str)) t38_ t39_ (IntKind.wrap .i64 (t40_ + 1))) _ hF _ _ ⟨rfl, rfl, rfl, rfl, trivial⟩ (hs.p 1 [] rfl)
  · refine rn 2 rfl ?_
    exact ih (.p1 ((s ++ c.Line.Text) ++ ([10] : Str)) t38_ t39_ (IntKind.wrap .i64 (t40_ + 1))) _ hF _ _ ⟨rfl, rfl, rfl, rfl, trivial⟩ (hs.p 1 [] rfl)
noncomputable def F50 (l : Sl T54) (from_ : Int) (to_ : Int) : Option Str :=
 (scut l 0 from_ >>= fun w_1 =>
  (F60 w_1 1 2 >>= fun r_3 =>
   (scut l from_ to_ >>= fun w_5 =>
    (F60 w_5 1 2 >>= fun r_7 =>
     (F59 r_3 r_7 >>= fun r_9 =>
      (if (([64, 64, 32, 45] : Str)).length + (r_9).length ≤ 9223372036854775807 then
       (if (([64, 64, 32, 45] : Str) ++ r_9).length + (([32, 43] : Str)).length ≤ 9223372036854775807 then
        (scut l 0 from_ >>= fun w_13 =>
         (F60 w_13 1 3 >>= fun r_15 =>
          (scut l from_ to_ >>= fun w_17 =>
           (F60 w_17 1 3 >>= fun r_19 =>
            (F59 r_15 r_19 >>= fun r_21 =>
             (if ((([64, 64, 32, 45] : Str) ++ r_9) ++ ([32, 43] : Str)).length + (r_21).length ≤ 9223372036854775807 then
              (if (((([64, 64, 32, 45] : Str) ++ r_9) ++ ([32, 43] : Str)) ++ r_21).length + (([32, 64, 64, 10] : Str)).length ≤ 9223372036854775807 then
               (scut l from_ to_ >>= fun w_25 =>
                (G50 (.p1 ((((([64, 64, 32, 45] : Str) ++ r_9) ++ ([32, 43] : Str)) ++ r_21) ++ ([32, 64, 64, 10] : Str)) w_25 ((ls w_25).length : Int) 0)))
              else none)
             else none))))))
       else none)
      else none))))))
theorem d50 (l : Sl T54) (from_ : Int) (to_ : Int) (r : Str) (hF : F50 l from_ to_ = some r) : DFun Tryd.prog gE 50 [slV 3 v54 l, AV.int .i64 from_, AV.int .i64 to_] (AV.str r) := by
 unfold F50 at hF
 refine bD k50 rfl ?_
 have hs : SH [] [] := SH.nil
 generalize ([] : Store) = st at hs ⊢
 refine rn 1 rfl ?_
 have h0 := hs
 refine dr0 ?_
 obtain ⟨w_1, g_2, hF⟩ := bind_some hF
 refine dn 2 rfl ?_
 refine de rfl (e_slLh (rd_V rfl) rfl g_2) ?_
 obtain ⟨r_3, g_4, hF⟩ := bind_some hF
 refine ddf (d60 w_1 1 2 _ g_4) rfl ?_
 obtain ⟨w_5, g_6, hF⟩ := bind_some hF
 refine dn 3 rfl ?_
 refine de rfl (e_slL2 (rd_V rfl) rfl rfl g_6) ?_
 obtain ⟨r_7, g_8, hF⟩ := bind_some hF
 refine ddf (d60 w_5 1 2 _ g_8) rfl ?_
 obtain ⟨r_9, g_10, hF⟩ := bind_some hF
 refine ddf (d59 r_3 r_7 _ g_10) rfl ?_
 obtain ⟨g_11, hF⟩ := grd_some hF
 refine de rfl (e_str rfl rfl (op_cat _ _ g_11)) ?_
 refine dn 1 rfl ?_
 refine dz ?_
 refine rn 0 rfl ?_
 have h0 := hs
 refine dr0 ?_
 obtain ⟨g_12, hF⟩ := grd_some hF
 refine dn 1 rfl ?_
 refine de rfl (e_str rfl rfl (op_cat _ _ g_12)) ?_
 obtain ⟨w_13, g_14, hF⟩ := bind_some hF
 refine dn 2 rfl ?_
 refine de rfl (e_slLh (rd_V rfl) rfl g_14) ?_
 obtain ⟨r_15, g_16, hF⟩ := bind_some hF
 refine ddf (d60 w_13 1 3 _ g_16) rfl ?_
 obtain ⟨w_17, g_18, hF⟩ := bind_some hF
 refine dn 3 rfl ?_
 refine de rfl (e_slL2 (rd_V rfl) rfl rfl g_18) ?_
 obtain ⟨r_19, g_20, hF⟩ := bind_some hF
 refine ddf (d60 w_17 1 3 _ g_20) rfl ?_
 obtain ⟨r_21, g_22, hF⟩ := bind_some hF
 refine ddf (d59 r_15 r_19 _ g_22) rfl ?_
 obtain ⟨g_23, hF⟩ := grd_some hF
 refine de rfl (e_str rfl rfl (op_cat _ _ g_23)) ?_
 obtain ⟨g_24, hF⟩ := grd_some hF
 refine de rfl (e_str rfl rfl (op_cat _ _ g_24)) ?_
 refine dn 1 rfl ?_
 refine dz ?_
 obtain ⟨w_25, g_26, hF⟩ := bind_some hF
 refine rn 3 rfl ?_
 refine W.o (e_slL2 (rd_V rfl) rfl rfl g_26) ?_
 refine W.o (e_len (rd_V rfl)) ?_
 refine rn 1 rfl ?_
 exact w50 (.p1 ((((([64, 64, 32, 45] : Str) ++ r_9) ++ ([32, 43] : Str)) ++ r_21) ++ ([32, 64, 64, 10] : Str)) w_25 ((ls w_25).length : Int) 0) _ hF _ _ ⟨rfl, rfl, rfl, rfl, trivial⟩ hs
end Go.Proofs.YtllhdbdbdblimaaDoor
