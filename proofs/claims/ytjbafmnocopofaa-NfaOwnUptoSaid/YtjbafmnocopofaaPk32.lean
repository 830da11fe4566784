/-
  Texts of this proof, put together: D2, D3, D4, D5, D6, PlA, NfS1, NfS2, NfS3, NfS4, NfS5.
-/
import Derived.Test.YtjbafmnocopofaaPk31
set_option linter.unusedSimpArgs false
set_option linter.unusedVariables false
section
set_option maxRecDepth 4000
set_option maxHeartbeats 4000000
namespace Go.Proofs.Ytjbafmnocopofaa
open Go AW
attribute [local irreducible] W WD SH XS XLoop DFun XCall XYield
def C50_1 : ACode := .s (.ops [q 3 (.boxD 9 1)]) (.ops [q 4 (.mv 0), q 5 (.faddr 7 3), q 6 (.load1 5), q 7 (.build [(.int .u8 0), (.int .u64 0), (.int .u64 0), (.int .u64 0), (.int .u64 0), (.int .i64 0), (.int .i64 0), (.int .i64 0), (.int .i64 0)] [(0, (1, (ku 9))), (6, (1, 6))]), qc 8 27 [4, 7]])
def R50 : List RA := []
theorem k50 : compF Try.prog (muL [3]) 50 = some ⟨9, C50_1, R50⟩ := by kernel_rfl
noncomputable def F50 (c : T65) (n : T27) : Option T65 := (F27 c ({ Kind := 9, Set := (Arr.rep 4 (0 : Int)), To := 0, Group := n.Group, Last := 0, Slot := 0 } : T52) >>= fun r_1 => (some r_1.2))
theorem d50 (c : T65) (n : T27) (r : T65) (hF : F50 c n = some r) : ∀ (K : AV → Store → Prop) (Ls : List Asn) (iP0 : Nat), (∀ st, SH st (bx65_0r iP0 r :: Ls) → K (AV.tup []) st) → ∀ (st : Store), SH st (bx65_0r iP0 c :: Ls) → XCall Try.prog noG 50 [.ptr iP0 0, v27 n] st K := by
 unfold F50 at hF
 intro K Ls iP0 hK  st hs
 refine bS k50 rfl ?_
 refine rn 0 rfl ?_
 refine W.o (e_boxD (cs := c27 n) rfl (by rw [c27_len]; rfl) (c27_one _)) ?_
 refine rn 1 rfl ?_
 refine W.o (e_faddrD rfl) ?_
 refine W.o (e_load1D rfl (DP.fld (DP.refl _) (lrg27_Group n))) ?_
 refine W.o (bR (cs := c52 ({ Kind := 9, Set := (Arr.rep 4 (0 : Int)), To := 0, Group := n.Group, Last := 0, Slot := 0 } : T52)) rfl rfl) ?_
 obtain ⟨r_1, g_2, hF⟩ := bind_some hF
 refine cl (ale rfl) (d27 _ _ _ g_2 _ _ iP0 (fun st hs => ?_) _ hs)
 refine rn 0 rfl ?_
 cases hF
 exact eS rl0 (hK _ hs) rfl
def C26_1 : ACode := .s (.ops [q 3 (.boxD 9 1)]) (.draw [] 0 0 [q 5 (.faddr 0 3), q 6 (.load1 5), q 8 (.mv 0), q 9 (.loadN 9 3), qc 4 39 [], q 7 (.ixA1 10 1 4 6)] [qf 10 7 [8, 9]])
def R26 : List RA := []
theorem k26 : compF Try.prog (muL [3]) 26 = some ⟨11, C26_1, R26⟩ := by kernel_rfl
def C51_7 : ACode := .s (.ops [q 10 (.binI .lss 9 8)]) (.s (.cond 10 .skip (.exit 0)) (.s (.block 1 (.s (.ops [q 11 (.iaddrL 9 7 9), q 12 (.loadN 9 11), q 5 (.alloc [(.int .u8 0), (.int .u64 0), (.int .u64 0), (.int .u64 0), (.int .u64 0), (.int .i64 0), (.int .i64 0), (.int .i64 0), .nils]), q0 (.store 9 5 12)]) (.ops [q 13 (.mv 0), q 14 (.loadN 9 5), qc 15 26 [13, 14]]))) (.ops [q 16 (.binI .add 9 (ki 1)), q 9 (.mv 16)])))
def C51_1 : ACode := .s (.ops [q 3 (.boxD 9 1)]) (.s (.ops [q 6 (.faddr 8 3), q 7 (.load1 6), q 8 (.len 7), q 9 (.mv (ki 0))]) (.block 0 (.loop C51_7)))
def R51 : List RA := []
theorem k51 : compF Try.prog (muL [3]) 51 = some ⟨17, C51_1, R51⟩ := by kernel_rfl
noncomputable abbrev X51 (K : AV → Store → Prop) : Cx := cK Try.prog noG 17 R51 (isK K) [3]
def C52_1 : ACode := .s (.ops [q 3 (.boxD 9 1)]) (.s (.ops [q 4 (.mv 0), q 5 (.faddr 7 3), q 6 (.load1 5), q 7 (.build [(.int .u8 0), (.int .u64 0), (.int .u64 0), (.int .u64 0), (.int .u64 0), (.int .i64 0), (.int .i64 0), (.int .i64 0), (.int .i64 0)] [(0, (1, (ku 4))), (6, (1, 6))]), qc 8 27 [4, 7]]) (.s (.ops [q 9 (.mv 0), q 10 (.faddr 8 3), q 11 (.load1 10), q 12 (.iaddrL 9 11 (ki 0)), q 13 (.loadN 9 12), qc 14 26 [9, 13]]) (.ops [q 15 (.mv 0), q 16 (.faddr 7 3), q 17 (.load1 16), q 18 (.build [(.int .u8 0), (.int .u64 0), (.int .u64 0), (.int .u64 0), (.int .u64 0), (.int .i64 0), (.int .i64 0), (.int .i64 0), (.int .i64 0)] [(0, (1, (ku 5))), (6, (1, 17))]), qc 19 27 [15, 18]])))
def R52 : List RA := []
theorem k52 : compF Try.prog (muL [3]) 52 = some ⟨20, C52_1, R52⟩ := by kernel_rfl
def C53_20 : ACode := .s (.ops [q 22 (.iaddrL 9 18 20), q 23 (.loadN 9 22), q 7 (.alloc [(.int .u8 0), (.int .u64 0), (.int .u64 0), (.int .u64 0), (.int .u64 0), (.int .i64 0), (.int .i64 0), (.int .i64 0), .nils]), q0 (.store 9 7 23)]) (.s (.ops [q 24 (.mv 0), q 25 (.build [(.int .u8 0), (.int .u64 0), (.int .u64 0), (.int .u64 0), (.int .u64 0), (.int .i64 0), (.int .i64 0), (.int .i64 0), (.int .i64 0)] [(0, (1, (ku 2)))]), qc 26 27 [24, 25], q 8 (.mv 26)]) (.s (.ops [q 27 (.mv 0), q 28 (.loadN 9 7), qc 29 26 [27, 28]]) (.s (.ops [q 30 (.mv 4), q 31 (.mv 0), q 32 (.build [(.int .u8 0), (.int .u64 0), (.int .u64 0), (.int .u64 0), (.int .u64 0), (.int .i64 0), (.int .i64 0), (.int .i64 0), (.int .i64 0)] [(0, (1, (ku 3)))]), qc 33 27 [31, 32], q 34 (.bslice 1 1 false [(.int .i64 0)] [(0, (1, 33))] false), q 35 (.app 1 8 30 34), q 4 (.mv 35)]) (.draw [] 0 0 [q 36 (.mv 0), q 37 (.nilck 36), q 38 (.faddr 0 37), q 39 (.load1 38), q 40 (.mv 8), q 41 (.mv 0), q 42 (.nilck 41), q 43 (.faddr 0 42), q 44 (.load1 43), q 45 (.len 44), q 46 (.iaddrL 9 39 40), q 47 (.faddr 5 46)] [q0 (.store 1 47 45)]))))
def C53_12 : ACode := .s (.ops [q 21 (.binI .lss 20 19)]) (.s (.cond 21 .skip (.exit 0)) (.s (.block 1 C53_20) (.ops [q 48 (.binI .add 20 (ki 1)), q 20 (.mv 48)])))
def C53_36 : ACode := .s (.ops [q 59 (.binI .lss 58 57)]) (.s (.cond 59 .skip (.exit 2)) (.s (.block 3 (.s (.ops [q 60 (.iaddrL 1 56 58), q 61 (.load1 60), q 10 (.mv 61)]) (.draw [] 0 0 [q 62 (.mv 0), q 63 (.nilck 62), q 64 (.faddr 0 63), q 65 (.load1 64), q 66 (.mv 10), q 67 (.mv 0), q 68 (.nilck 67), q 69 (.faddr 0 68), q 70 (.load1 69), q 71 (.len 70), q 72 (.iaddrL 9 65 66), q 73 (.faddr 5 72)] [q0 (.store 1 73 71)]))) (.ops [q 74 (.binI .add 58 (ki 1)), q 58 (.mv 74)])))
def C53_30 : ACode := .s (.ops [q 49 (.mv 0), q 50 (.faddr 8 3), q 51 (.load1 50), q 52 (.mv 5), q 53 (.iaddrL 9 51 52), q 54 (.loadN 9 53), qc 55 26 [49, 54]]) (.s (.ops [q 56 (.mv 4), q 57 (.len 56), q 58 (.mv (ki 0))]) (.block 2 (.loop C53_36)))
def C53_1 : ACode := .s (.ops [q 3 (.boxD 9 1)]) (.s (.ops [q 4 (.mv (.c .nils))]) (.s (.ops [q 11 (.faddr 8 3), q 12 (.load1 11), q 13 (.len 12), q 14 (.binI .sub 13 (ki 1)), q 5 (.mv 14)]) (.s (.s (.ops [q 15 (.faddr 8 3), q 16 (.load1 15), q 17 (.mv 5), q 18 (.slL 9 16 .none (.some 17)), q 19 (.len 18), q 20 (.mv (ki 0))]) (.block 0 (.loop C53_12))) C53_30)))
def R53 : List RA := []
theorem k53 : compF Try.prog (muL [3]) 53 = some ⟨75, C53_1, R53⟩ := by kernel_rfl
noncomputable abbrev X53 (K : AV → Store → Prop) : Cx := cK Try.prog noG 75 R53 (isK K) [3]
def C54_20 : ACode := .s (.ops [q 24 (.mv 0), q 25 (.nilck 24), q 26 (.faddr 0 25), q 27 (.load1 26), q 28 (.len 27), q 29 (.mv 4), q 30 (.binI .eql 28 29)]) (.cond 30 (.exit 0) .skip)
def C54_8 : ACode := .s (.ops [q 12 (.binI .lss 11 10)]) (.s (.cond 12 .skip (.exit 0)) (.s (.block 1 (.s (.ops [q 13 (.mv 0), q 14 (.nilck 13), q 15 (.faddr 0 14), q 16 (.load1 15), q 17 (.len 16), q 4 (.mv 17)]) (.s (.ops [q 18 (.mv 0), q 19 (.faddr 8 3), q 20 (.load1 19), q 21 (.iaddrL 9 20 (ki 0)), q 22 (.loadN 9 21), qc 23 59 [18, 22, (.c (.bool false))]]) C54_20))) (.ops [q 31 (.binI .add 11 (ki 1)), q 11 (.mv 31)])))
def C54_47 : ACode := .s (.ops [q 66 (.binI .lss 65 64)]) (.s (.cond 66 .skip (.exit 2)) (.s (.block 3 (.s (.ops [q 67 (.mv 6), q 68 (.mv 0), q 69 (.build [(.int .u8 0), (.int .u64 0), (.int .u64 0), (.int .u64 0), (.int .u64 0), (.int .i64 0), (.int .i64 0), (.int .i64 0), (.int .i64 0)] [(0, (1, (ku 2)))]), qc 70 27 [68, 69], q 71 (.bslice 1 1 false [(.int .i64 0)] [(0, (1, 70))] false), q 72 (.app 1 8 67 71), q 6 (.mv 72)]) (.ops [q 73 (.mv 0), q 74 (.faddr 8 3), q 75 (.load1 74), q 76 (.iaddrL 9 75 (ki 0)), q 77 (.loadN 9 76), qc 78 59 [73, 77, (.c (.bool true))]]))) (.ops [q 79 (.binI .add 65 (ki 1)), q 65 (.mv 79)])))
def C54_63 : ACode := .s (.ops [q 83 (.binI .lss 82 81)]) (.s (.cond 83 .skip (.exit 4)) (.s (.block 5 (.s (.ops [q 84 (.iaddrL 1 80 82), q 85 (.load1 84), q 8 (.mv 85)]) (.draw [] 0 0 [q 86 (.mv 0), q 87 (.nilck 86), q 88 (.faddr 0 87), q 89 (.load1 88), q 90 (.mv 8), q 91 (.mv 0), q 92 (.nilck 91), q 93 (.faddr 0 92), q 94 (.load1 93), q 95 (.len 94), q 96 (.iaddrL 9 89 90), q 97 (.faddr 5 96)] [q0 (.store 1 97 95)]))) (.ops [q 98 (.binI .add 82 (ki 1)), q 82 (.mv 98)])))
def C54_59 : ACode := .s (.ops [q 80 (.mv 6), q 81 (.len 80), q 82 (.mv (ki 0))]) (.block 4 (.loop C54_63))
def C54_26 : ACode := .s (.s (.ops [q 32 (.faddr 6 3), q 33 (.load1 32), q 34 (.binI .eql 33 (ki (-1)))]) (.cond 34 (.s (.ops [q 35 (.mv 0), q 36 (.build [(.int .u8 0), (.int .u64 0), (.int .u64 0), (.int .u64 0), (.int .u64 0), (.int .i64 0), (.int .i64 0), (.int .i64 0), (.int .i64 0)] [(0, (1, (ku 2)))]), qc 37 27 [35, 36], q 5 (.mv 37)]) (.s (.ops [q 38 (.mv 0), q 39 (.faddr 8 3), q 40 (.load1 39), q 41 (.iaddrL 9 40 (ki 0)), q 42 (.loadN 9 41), qc 43 59 [38, 42, (.c (.bool true))]]) (.s (.ops [q 44 (.mv 0), q 45 (.mv 5), q 46 (.build [(.int .u8 0), (.int .u64 0), (.int .u64 0), (.int .u64 0), (.int .u64 0), (.int .i64 0), (.int .i64 0), (.int .i64 0), (.int .i64 0)] [(0, (1, (ku 3))), (5, (1, 45))]), qc 47 27 [44, 46]]) (.s (.draw [] 0 0 [q 48 (.mv 0), q 49 (.nilck 48), q 50 (.faddr 0 49), q 51 (.load1 50), q 52 (.mv 5), q 53 (.mv 0), q 54 (.nilck 53), q 55 (.faddr 0 54), q 56 (.load1 55), q 57 (.len 56), q 58 (.iaddrL 9 51 52), q 59 (.faddr 5 58)] [q0 (.store 1 59 57)]) .ret)))) .skip)) (.s (.ops [q 6 (.mv (.c .nils))]) (.s (.s (.ops [q 60 (.faddr 6 3), q 61 (.load1 60), q 62 (.faddr 5 3), q 63 (.load1 62), q 64 (.binI .sub 61 63), q 65 (.mv (ki 0))]) (.block 2 (.loop C54_47))) C54_59))
def C54_1 : ACode := .s (.ops [q 3 (.boxD 9 1)]) (.s (.s (.ops [q 9 (.faddr 5 3), q 10 (.load1 9), q 11 (.mv (ki 0))]) (.block 0 (.loop C54_8))) C54_26)
def R54 : List RA := []
theorem k54 : compF Try.prog (muL [3]) 54 = some ⟨99, C54_1, R54⟩ := by kernel_rfl
noncomputable abbrev X54 (K : AV → Store → Prop) : Cx := cK Try.prog noG 99 R54 (isK K) [3]
def C59_23 : ACode := .s (.ops [q 49 (.mv 0), q 50 (.loadN 9 4), qc 51 26 [49, 50]]) (.s (.ops [q 52 (.mv 2)]) (.cond 52 (.s (.ops [q 53 (.mv 0), q 54 (.nilck 53), q 55 (.faddr 2 54), q 56 (.load1 55), q 57 (.binI .sub 56 (ki 1)), q 58 (.nilck 53), q 59 (.faddr 2 58), q0 (.store 1 59 57)]) (.ops [q 60 (.mv 0), q 61 (.mv 6), q 62 (.build [(.int .u8 0), (.int .u64 0), (.int .u64 0), (.int .u64 0), (.int .u64 0), (.int .i64 0), (.int .i64 0), (.int .i64 0), (.int .i64 0)] [(0, (1, (ku 8))), (8, (1, 61))]), qc 63 27 [60, 62]])) .skip))
def C59_15 : ACode := .s (.s (.ops [q 38 (.loadN 9 4), qc 39 38 [38], q 37 (.mv 39), q 40 (.extract 37 0), q 41 (.extract 37 1), q 7 (.mv 40), q 8 (.mv 41)]) (.s (.ops [q 42 (.mv 7), q 43 (.binI .gtr 42 (ki 0))]) (.cond 43 (.ops [q 44 (.mv 0), q 45 (.mv 7), q 46 (.mv 8), q 47 (.build [(.int .u8 0), (.int .u64 0), (.int .u64 0), (.int .u64 0), (.int .u64 0), (.int .i64 0), (.int .i64 0), (.int .i64 0), (.int .i64 0)] [(0, (1, (ku 6))), (6, (1, 45)), (7, (1, 46))]), qc 48 27 [44, 47]]) .skip))) C59_23
def C59_1 : ACode := .s (.ops [q 4 (.boxD 9 1)]) (.s (.ops [q 9 (.mv 0), q 10 (.nilck 9), q 11 (.faddr 2 10), q 12 (.load1 11), q 6 (.mv 12)]) (.s (.s (.ops [q 13 (.mv 2)]) (.cond 13 (.s (.ops [q 14 (.mv 0), q 15 (.mv 6), q 16 (.build [(.int .u8 0), (.int .u64 0), (.int .u64 0), (.int .u64 0), (.int .u64 0), (.int .i64 0), (.int .i64 0), (.int .i64 0), (.int .i64 0)] [(0, (1, (ku 7))), (8, (1, 15))]), qc 17 27 [14, 16]]) (.s (.ops [q 18 (.mv 0), q 19 (.nilck 18), q 20 (.faddr 2 19), q 21 (.load1 20), q 22 (.binI .add 21 (ki 1)), q 23 (.nilck 18), q 24 (.faddr 2 23), q0 (.store 1 24 22)]) (.draw [] 0 0 [q 25 (.mv 0), q 26 (.mv 0), q 27 (.nilck 26), q 28 (.faddr 1 27), q 29 (.load1 28), q 30 (.mv 0), q 31 (.nilck 30), q 32 (.faddr 2 31), q 33 (.load1 32), q 34 (.max [29, 33]), q 35 (.nilck 25), q 36 (.faddr 1 35)] [q0 (.store 1 36 34)]))) .skip)) C59_15))
def R59 : List RA := []
theorem k59 : compF Try.prog (muL [4]) 59 = some ⟨64, C59_1, R59⟩ := by kernel_rfl
noncomputable abbrev X59 (K : AV → Store → Prop) : Cx := cK Try.prog noG 64 R59 (isK K) [4]
inductive St26r where
 | e26 (c : T65) (n : T27)
 | e51 (c : T65) (n : T27)
 | p51_1 (t7_ : Sl T27) (t8_ : Int) (t9_ : Int) (c : T65)
 | e52 (c : T65) (n : T27)
 | e53 (c : T65) (n : T27)
 | p53_1 (n : T27) (last : Int) (t18_ : Sl T27) (t19_ : Int) (t20_ : Int) (c : T65) (out : Sl Int)
 | p53_2 (t56_ : Sl Int) (t57_ : Int) (t58_ : Int) (c : T65)
 | e54 (c : T65) (n : T27)
 | p54_1 (n : T27) (t10_ : Int) (t11_ : Int) (c : T65)
 | p54_2 (n : T27) (c : T65)
 | p54_3 (n : T27) (t64_ : Int) (t65_ : Int) (c : T65) (out : Sl Int)
 | p54_4 (t80_ : Sl Int) (t81_ : Int) (t82_ : Int) (c : T65)
 | e59 (c : T65) (n : T27) (free : Bool)
 | p59_1 (free : Bool) (n : T27) (slot : Int) (c : T65)
 | p59_2 (free : Bool) (n : T27) (slot : Int) (c : T65)
noncomputable def G26r : St26r → Option T65 | .e26 c n => (F39 >>= fun r_1 => (if n.Kind = 1 then (F46 c n >>= fun r_28 => (some r_28)) else (if n.Kind = 2 then (F47 c n >>= fun r_25 => (some r_25)) else (if n.Kind = 3 then (G26r (.e51 c n) >>= fun r_22 => (some r_22)) else (if n.Kind = 4 then (G26r (.e53 c n) >>= fun r_19 => (some r_19)) else (if n.Kind = 5 then (G26r (.e54 c n) >>= fun r_16 => (some r_16)) else (if n.Kind = 6 then (G26r (.e52 c n) >>= fun r_13 => (some r_13)) else (if n.Kind = 7 then (F50 c n >>= fun r_10 => (some r_10)) else (if n.Kind = 8 then (F48 c n >>= fun r_7 => (some r_7)) else (if n.Kind = 9 then (F49 c n >>= fun r_4 => (some r_4)) else none)))))))))) | .e51 c n => (G26r (.p51_1 n.Kids ((ls n.Kids).length : Int) 0 c)) | .p51_1 t7_ t8_ t9_ c => (if (decide (t9_ < t8_)) = true then (ix (ls t7_) t9_ >>= fun v_2 => (G26r (.e26 c v_2) >>= fun r_5 => (G26r (.p51_1 t7_ t8_ (IntKind.wrap .i64 (t9_ + 1)) r_5)))) else (some c)) | .e52 c n => (F27 c ({ Kind := 4, Set := (Arr.rep 4 (0 : Int)), To := 0, Group := n.Group, Last := 0, Slot := 0 } : T52) >>= fun r_1 => (ix (ls n.Kids) 0 >>= fun v_3 => (G26r (.e26 r_1.2 v_3) >>= fun r_5 => (F27 r_5 ({ Kind := 5, Set := (Arr.rep 4 (0 : Int)), To := 0, Group := n.Group, Last := 0, Slot := 0 } : T52) >>= fun r_7 => (some r_7.2))))) | .e53 c n => (scut n.Kids 0 (IntKind.wrap .i64 (((ls n.Kids).length : Int) - 1)) >>= fun w_1 => (G26r (.p53_1 n (IntKind.wrap .i64 (((ls n.Kids).length : Int) - 1)) w_1 ((ls w_1).length : Int) 0 c none))) | .p53_1 n last t18_ t19_ t20_ c out => (if (decide (t20_ < t19_)) = true then (ix (ls t18_) t20_ >>= fun v_5 => (F27 c ({ Kind := 2, Set := (Arr.rep 4 (0 : Int)), To := 0, Group := 0, Last := 0, Slot := 0 } : T52) >>= fun r_8 => (G26r (.e26 r_8.2 v_5) >>= fun r_10 => (F27 r_10 ({ Kind := 3, Set := (Arr.rep 4 (0 : Int)), To := 0, Group := 0, Last := 0, Slot := 0 } : T52) >>= fun r_12 => (if ((ls out).length + (ls (some ([r_12.1] : List Int))).length) * 8 ≤ 140737488355328 then (ix (ls r_12.2.code) r_8.1 >>= fun v_18 => (G26r (.p53_1 n last t18_ t19_ (IntKind.wrap .i64 (t20_ + 1)) ({ r_12.2 with code := (vset r_12.2.code r_8.1 ({ v_18 with To := ((ls r_12.2.code).length : Int) } : T52)) } : T65) (sapp out (ls (some ([r_12.1] : List Int))))))) else none))))) else (ix (ls n.Kids) last >>= fun v_20 => (G26r (.e26 c v_20) >>= fun r_22 => (G26r (.p53_2 out ((ls out).length : Int) 0 r_22))))) | .p53_2 t56_ t57_ t58_ c => (if (decide (t58_ < t57_)) = true then (ix (ls t56_) t58_ >>= fun v_25 => (ix (ls c.code) v_25 >>= fun v_28 => (G26r (.p53_2 t56_ t57_ (IntKind.wrap .i64 (t58_ + 1)) ({ c with code := (vset c.code v_25 ({ v_28 with To := ((ls c.code).length : Int) } : T52)) } : T65))))) else (some c)) | .e54 c n => (G26r (.p54_1 n n.Min 0 c)) | .p54_1 n t10_ t11_ c => (if (decide (t11_ < t10_)) = true then (ix (ls n.Kids) 0 >>= fun v_3 => (G26r (.e59 c v_3 false) >>= fun r_5 => (if (((ls r_5.code).length : Int) == ((ls c.code).length : Int)) = true then (G26r (.p54_2 n r_5)) else (G26r (.p54_1 n t10_ (IntKind.wrap .i64 (t11_ + 1)) r_5))))) else (G26r (.p54_2 n c))) | .p54_2 n c => (if (n.Max == (-1)) = true then (F27 c ({ Kind := 2, Set := (Arr.rep 4 (0 : Int)), To := 0, Group := 0, Last := 0, Slot := 0 } : T52) >>= fun r_10 => (ix (ls n.Kids) 0 >>= fun v_12 => (G26r (.e59 r_10.2 v_12 true) >>= fun r_14 => (F27 r_14 ({ Kind := 3, Set := (Arr.rep 4 (0 : Int)), To := r_10.1, Group := 0, Last := 0, Slot := 0 } : T52) >>= fun r_16 => (ix (ls r_16.2.code) r_10.1 >>= fun v_19 => (some ({ r_16.2 with code := (vset r_16.2.code r_10.1 ({ v_19 with To := ((ls r_16.2.code).length : Int) } : T52)) } : T65))))))) else (G26r (.p54_3 n (IntKind.wrap .i64 (n.Max - n.Min)) 0 c none))) | .p54_3 n t64_ t65_ c out => (if (decide (t65_ < t64_)) = true then (F27 c ({ Kind := 2, Set := (Arr.rep 4 (0 : Int)), To := 0, Group := 0, Last := 0, Slot := 0 } : T52) >>= fun r_23 => (if ((ls out).length + (ls (some ([r_23.1] : List Int))).length) * 8 ≤ 140737488355328 then (ix (ls n.Kids) 0 >>= fun v_28 => (G26r (.e59 r_23.2 v_28 true) >>= fun r_30 => (G26r (.p54_3 n t64_ (IntKind.wrap .i64 (t65_ + 1)) r_30 (sapp out (ls (some ([r_23.1] : List Int)))))))) else none)) else (G26r (.p54_4 out ((ls out).length : Int) 0 c))) | .p54_4 t80_ t81_ t82_ c => (if (decide (t82_ < t81_)) = true then (ix (ls t80_) t82_ >>= fun v_33 => (ix (ls c.code) v_33 >>= fun v_36 => (G26r (.p54_4 t80_ t81_ (IntKind.wrap .i64 (t82_ + 1)) ({ c with code := (vset c.code v_33 ({ v_36 with To := ((ls c.code).length : Int) } : T52)) } : T65))))) else (some c)) | .e59 c n free => (if free = true then (F27 c ({ Kind := 7, Set := (Arr.rep 4 (0 : Int)), To := 0, Group := 0, Last := 0, Slot := c.free } : T52) >>= fun r_3 => (G26r (.p59_1 free n c.free ({ r_3.2 with free := IntKind.wrap .i64 (r_3.2.free + 1), slots := (if (IntKind.wrap .i64 (r_3.2.free + 1)) > r_3.2.slots then (IntKind.wrap .i64 (r_3.2.free + 1)) else r_3.2.slots) } : T65)))) else (G26r (.p59_1 free n c.free c))) | .p59_1 free n slot c => (F38 n >>= fun r_6 => (if (decide (r_6.1 > 0)) = true then (F27 c ({ Kind := 6, Set := (Arr.rep 4 (0 : Int)), To := 0, Group := r_6.1, Last := r_6.2, Slot := 0 } : T52) >>= fun r_9 => (G26r (.p59_2 free n slot r_9.2))) else (G26r (.p59_2 free n slot c)))) | .p59_2 free n slot c => (G26r (.e26 c n) >>= fun r_11 => (if free = true then (F27 ({ r_11 with free := IntKind.wrap .i64 (r_11.free - 1) } : T65) ({ Kind := 8, Set := (Arr.rep 4 (0 : Int)), To := 0, Group := 0, Last := 0, Slot := slot } : T52) >>= fun r_15 => (some r_15.2)) else (some r_11))) partial_fixpoint
def M26r (x : St26r) (r : T65) : Prop := match x with | .e26 c n => ∀ (K : AV → Store → Prop) (Ls : List Asn) (iP0 : Nat), (∀ st, SH st (bx65_0r iP0 r :: Ls) → K (AV.tup []) st) → ∀ (st : Store), SH st (bx65_0r iP0 c :: Ls) → XCall Try.prog noG 26 [.ptr iP0 0, v27 n] st K | .e51 c n => ∀ (K : AV → Store → Prop) (Ls : List Asn) (iP0 : Nat), (∀ st, SH st (bx65_0r iP0 r :: Ls) → K (AV.tup []) st) → ∀ (st : Store), SH st (bx65_0r iP0 c :: Ls) → XCall Try.prog noG 51 [.ptr iP0 0, v27 n] st K | .p51_1 t7_ t8_ t9_ c => ∀ (K : AV → Store → Prop) (Ls : List Asn) (iP0 : Nat), (∀ st, SH st (bx65_0r iP0 r :: Ls) → K (AV.tup []) st) → ∀ (tm : Fr) (st : Store), Frm tm [(0, .ptr iP0 0), (7, slV 9 v27 t7_), (8, AV.int .i64 t8_), (9, AV.int .i64 t9_)] → SH st (bx65_0r iP0 c :: Ls) → W (X51 K) [.lp C51_7, .blk 0] tm st | .e52 c n => ∀ (K : AV → Store → Prop) (Ls : List Asn) (iP0 : Nat), (∀ st, SH st (bx65_0r iP0 r :: Ls) → K (AV.tup []) st) → ∀ (st : Store), SH st (bx65_0r iP0 c :: Ls) → XCall Try.prog noG 52 [.ptr iP0 0, v27 n] st K | .e53 c n => ∀ (K : AV → Store → Prop) (Ls : List Asn) (iP0 : Nat), (∀ st, SH st (bx65_0r iP0 r :: Ls) → K (AV.tup []) st) → ∀ (st : Store), SH st (bx65_0r iP0 c :: Ls) → XCall Try.prog noG 53 [.ptr iP0 0, v27 n] st K | .p53_1 n last t18_ t19_ t20_ c out => ∀ (K : AV → Store → Prop) (Ls : List Asn) (iP0 : Nat), (∀ st, SH st (bx65_0r iP0 r :: Ls) → K (AV.tup []) st) → ∀ (tm : Fr) (st : Store) (io1 : Nat), Frm tm [(0, .ptr iP0 0), (3, .dptr (c27 n)), (4, ownV 1 (AV.int .i64) out io1), (5, AV.int .i64 last), (18, slV 9 v27 t18_), (19, AV.int .i64 t19_), (20, AV.int .i64 t20_)] → SH st (bx65_0r iP0 c :: ownA io1 out :: Ls) → W (X53 K) [.lp C53_12, .blk 0, .code C53_30] tm st | .p53_2 t56_ t57_ t58_ c => ∀ (K : AV → Store → Prop) (Ls : List Asn) (iP0 : Nat), (∀ st, SH st (bx65_0r iP0 r :: Ls) → K (AV.tup []) st) → ∀ (tm : Fr) (st : Store), Frm tm [(0, .ptr iP0 0), (56, slV 1 (AV.int .i64) t56_), (57, AV.int .i64 t57_), (58, AV.int .i64 t58_)] → SH st (bx65_0r iP0 c :: Ls) → W (X53 K) [.lp C53_36, .blk 2] tm st | .e54 c n => ∀ (K : AV → Store → Prop) (Ls : List Asn) (iP0 : Nat), (∀ st, SH st (bx65_0r iP0 r :: Ls) → K (AV.tup []) st) → ∀ (st : Store), SH st (bx65_0r iP0 c :: Ls) → XCall Try.prog noG 54 [.ptr iP0 0, v27 n] st K | .p54_1 n t10_ t11_ c => ∀ (K : AV → Store → Prop) (Ls : List Asn) (iP0 : Nat), (∀ st, SH st (bx65_0r iP0 r :: Ls) → K (AV.tup []) st) → ∀ (tm : Fr) (st : Store), Frm tm [(0, .ptr iP0 0), (3, .dptr (c27 n)), (10, AV.int .i64 t10_), (11, AV.int .i64 t11_)] → SH st (bx65_0r iP0 c :: Ls) → W (X54 K) [.lp C54_8, .blk 0, .code C54_26] tm st | .p54_2 n c => ∀ (K : AV → Store → Prop) (Ls : List Asn) (iP0 : Nat), (∀ st, SH st (bx65_0r iP0 r :: Ls) → K (AV.tup []) st) → ∀ (tm : Fr) (st : Store), Frm tm [(0, .ptr iP0 0), (3, .dptr (c27 n))] → SH st (bx65_0r iP0 c :: Ls) → W (X54 K) [.code C54_26] tm st | .p54_3 n t64_ t65_ c out => ∀ (K : AV → Store → Prop) (Ls : List Asn) (iP0 : Nat), (∀ st, SH st (bx65_0r iP0 r :: Ls) → K (AV.tup []) st) → ∀ (tm : Fr) (st : Store) (io1 : Nat), Frm tm [(0, .ptr iP0 0), (3, .dptr (c27 n)), (6, ownV 1 (AV.int .i64) out io1), (64, AV.int .i64 t64_), (65, AV.int .i64 t65_)] → SH st (bx65_0r iP0 c :: ownA io1 out :: Ls) → W (X54 K) [.lp C54_47, .blk 2, .code C54_59] tm st | .p54_4 t80_ t81_ t82_ c => ∀ (K : AV → Store → Prop) (Ls : List Asn) (iP0 : Nat), (∀ st, SH st (bx65_0r iP0 r :: Ls) → K (AV.tup []) st) → ∀ (tm : Fr) (st : Store), Frm tm [(0, .ptr iP0 0), (80, slV 1 (AV.int .i64) t80_), (81, AV.int .i64 t81_), (82, AV.int .i64 t82_)] → SH st (bx65_0r iP0 c :: Ls) → W (X54 K) [.lp C54_63, .blk 4] tm st | .e59 c n free => ∀ (K : AV → Store → Prop) (Ls : List Asn) (iP0 : Nat), (∀ st, SH st (bx65_0r iP0 r :: Ls) → K (AV.tup []) st) → ∀ (st : Store), SH st (bx65_0r iP0 c :: Ls) → XCall Try.prog noG 59 [.ptr iP0 0, v27 n, AV.bool free] st K | .p59_1 free n slot c => ∀ (K : AV → Store → Prop) (Ls : List Asn) (iP0 : Nat), (∀ st, SH st (bx65_0r iP0 r :: Ls) → K (AV.tup []) st) → ∀ (tm : Fr) (st : Store), Frm tm [(0, .ptr iP0 0), (2, AV.bool free), (4, .dptr (c27 n)), (6, AV.int .i64 slot)] → SH st (bx65_0r iP0 c :: Ls) → W (X59 K) [.code C59_15] tm st | .p59_2 free n slot c => ∀ (K : AV → Store → Prop) (Ls : List Asn) (iP0 : Nat), (∀ st, SH st (bx65_0r iP0 r :: Ls) → K (AV.tup []) st) → ∀ (tm : Fr) (st : Store), Frm tm [(0, .ptr iP0 0), (2, AV.bool free), (4, .dptr (c27 n)), (6, AV.int .i64 slot)] → SH st (bx65_0r iP0 c :: Ls) → W (X59 K) [.code C59_23] tm st
theorem w26r : ∀ (x : St26r) (r : T65), G26r x = some r → M26r x r := by
 refine G26r.partial_correctness M26r ?_
 intro g ih x r hF
 cases x with
 | e26 c n =>
  dsimp only at hF
  intro K Ls iP0 hK  st hs
  refine bS k26 rfl ?_
  refine rn 0 rfl ?_
  refine W.o (e_boxD (cs := c27 n) rfl (by rw [c27_len]; rfl) (c27_one _)) ?_
  refine rn 0 rfl ?_
  have h0 := hs
  refine dr0 ?_
  refine de rfl (e_faddrD rfl) ?_
  refine de rfl (e_load1D rfl (DP.fld (DP.refl _) (lrg27_Kind n))) ?_
  refine dn 1 rfl ?_
  refine de rfl (e_loadND rfl (DP.refl _) (c27_len _)) ?_
  obtain ⟨r_1, g_2, hF⟩ := bind_some hF
  refine ddf (d39 _ g_2) rfl ?_
  refine ni hF (fun c_27 hF => ?_) (fun c_27 hF => ?_)
  · refine de rfl (e_ixT (m := 1) rfl rfl c_27 rfl rfl) ?_
    refine dz ?_
    obtain ⟨r_28, g_29, hF⟩ := bind_some hF
    refine cv rfl (by kernel_rfl) (ale rfl) (d46 c n _ g_29 _ _ iP0 (fun st hs => ?_) _ hs)
    refine rn 0 rfl ?_
    cases hF
    exact eS rl0 (hK _ hs) rfl
  refine ni hF (fun c_24 hF => ?_) (fun c_24 hF => ?_)
  · refine de rfl (e_ixT (m := 2) rfl rfl c_24 rfl rfl) ?_
    refine dz ?_
    obtain ⟨r_25, g_26, hF⟩ := bind_some hF
    refine cv rfl (by kernel_rfl) (ale rfl) (d47 c n _ g_26 _ _ iP0 (fun st hs => ?_) _ hs)
    refine rn 0 rfl ?_
    cases hF
    exact eS rl0 (hK _ hs) rfl
  refine ni hF (fun c_21 hF => ?_) (fun c_21 hF => ?_)
  · refine de rfl (e_ixT (m := 3) rfl rfl c_21 rfl rfl) ?_
    refine dz ?_
    obtain ⟨r_22, g_23, hF⟩ := bind_some hF
    refine cv rfl (by kernel_rfl) (ale rfl) (ih (.e51 c n) _ g_23 _ _ iP0 (fun st hs => ?_) _ hs)
    refine rn 0 rfl ?_
    cases hF
    exact eS rl0 (hK _ hs) rfl
  refine ni hF (fun c_18 hF => ?_) (fun c_18 hF => ?_)
  · refine de rfl (e_ixT (m := 4) rfl rfl c_18 rfl rfl) ?_
    refine dz ?_
    obtain ⟨r_19, g_20, hF⟩ := bind_some hF
    refine cv rfl (by kernel_rfl) (ale rfl) (ih (.e53 c n) _ g_20 _ _ iP0 (fun st hs => ?_) _ hs)
    refine rn 0 rfl ?_
    cases hF
    exact eS rl0 (hK _ hs) rfl
  refine ni hF (fun c_15 hF => ?_) (fun c_15 hF => ?_)
  · refine de rfl (e_ixT (m := 5) rfl rfl c_15 rfl rfl) ?_
    refine dz ?_
    obtain ⟨r_16, g_17, hF⟩ := bind_some hF
    refine cv rfl (by kernel_rfl) (ale rfl) (ih (.e54 c n) _ g_17 _ _ iP0 (fun st hs => ?_) _ hs)
    refine rn 0 rfl ?_
    cases hF
    exact eS rl0 (hK _ hs) rfl
  refine ni hF (fun c_12 hF => ?_) (fun c_12 hF => ?_)
  · refine de rfl (e_ixT (m := 6) rfl rfl c_12 rfl rfl) ?_
    refine dz ?_
    obtain ⟨r_13, g_14, hF⟩ := bind_some hF
    refine cv rfl (by kernel_rfl) (ale rfl) (ih (.e52 c n) _ g_14 _ _ iP0 (fun st hs => ?_) _ hs)
    refine rn 0 rfl ?_
    cases hF
    exact eS rl0 (hK _ hs) rfl
  refine ni hF (fun c_9 hF => ?_) (fun c_9 hF => ?_)
  · refine de rfl (e_ixT (m := 7) rfl rfl c_9 rfl rfl) ?_
    refine dz ?_
    obtain ⟨r_10, g_11, hF⟩ := bind_some hF
    refine cv rfl (by kernel_rfl) (ale rfl) (d50 c n _ g_11 _ _ iP0 (fun st hs => ?_) _ hs)
    refine rn 0 rfl ?_
    cases hF
    exact eS rl0 (hK _ hs) rfl
  refine ni hF (fun c_6 hF => ?_) (fun c_6 hF => ?_)
  · refine de rfl (e_ixT (m := 8) rfl rfl c_6 rfl rfl) ?_
    refine dz ?_
    obtain ⟨r_7, g_8, hF⟩ := bind_some hF
    refine cv rfl (by kernel_rfl) (ale rfl) (d48 c n _ g_8 _ _ iP0 (fun st hs => ?_) _ hs)
    refine rn 0 rfl ?_
    cases hF
    exact eS rl0 (hK _ hs) rfl
  refine ni hF (fun c_3 hF => ?_) (fun c_3 hF => ?_)
  · refine de rfl (e_ixT (m := 9) rfl rfl c_3 rfl rfl) ?_
    refine dz ?_
    obtain ⟨r_4, g_5, hF⟩ := bind_some hF
    refine cv rfl (by kernel_rfl) (ale rfl) (d49 c n _ g_5 _ _ iP0 (fun st hs => ?_) _ hs)
    refine rn 0 rfl ?_
    cases hF
    exact eS rl0 (hK _ hs) rfl
  cases hF
 | e51 c n =>
  dsimp only at hF
  intro K Ls iP0 hK  st hs
  refine bS k51 rfl ?_
  refine rn 0 rfl ?_
  refine W.o (e_boxD (cs := c27 n) rfl (by rw [c27_len]; rfl) (c27_one _)) ?_
  refine rn 0 rfl ?_
  refine W.o (e_faddrD rfl) ?_
  refine W.o (e_load1D rfl (DP.fld (DP.refl _) (lrg27_Kids n))) ?_
  refine W.o (e_len (rd_V rfl)) ?_
  refine rn 1 rfl ?_
  exact ih _ _ hF K Ls iP0 hK _ _ ⟨rfl, rfl, rfl, rfl, trivial⟩ hs
 | p51_1 t7_ t8_ t9_ c =>
  dsimp only at hF
  intro K Ls iP0 hK tm st hf hs
  refine en hf ?_
  refine lp ?_
  refine rn 1 rfl ?_
  refine ci hF rfl (fun c_1 hF => ?_) (fun c_1 hF => ?_)
  · obtain ⟨v_2, g_3, hF⟩ := bind_some hF
    refine rn 0 rfl ?_
    refine W.o (e_iaddrL (rd_V rfl) rfl g_3) ?_
    refine W.o (e_loadND rfl (DP.refl _) (c27_len _)) ?_
    refine al hs (cs := c27 ({ Kind := 0, Set := (Arr.rep 4 (0 : Int)), Min := 0, Max := 0, Group := 0, Kids := none } : T27)) rfl fun st b_4 hs => ?_
    refine sl hs 0 rfl rfl (LR.whole _ _) (c27_len _) rfl (c27_len _) (c27_one _) rfl fun st hs => ?_
    refine rn 1 rfl ?_
    refine W.o (e_loadN rfl (hs.g 0 rfl) (LR.whole _ _) (c27_len _)) ?_
    obtain ⟨r_5, g_6, hF⟩ := bind_some hF
    refine cl (ale rfl) (ih (.e26 c v_2) _ g_6 _ _ iP0 (fun st hs => ?_) _ (hs.p 2 [1, 0] rfl))
    refine rn 2 rfl ?_
    exact ih _ _ hF K Ls iP0 hK _ _ ⟨rfl, rfl, rfl, rfl, trivial⟩ (hs.p 2 [0] rfl)
  refine rn 0 rfl ?_
  cases hF
  exact eS rl0 (hK _ hs) rfl
 | e52 c n =>
  dsimp only at hF
  intro K Ls iP0 hK  st hs
  refine bS k52 rfl ?_
  refine rn 0 rfl ?_
  refine W.o (e_boxD (cs := c27 n) rfl (by rw [c27_len]; rfl) (c27_one _)) ?_
  refine rn 1 rfl ?_
  refine W.o (e_faddrD rfl) ?_
  refine W.o (e_load1D rfl (DP.fld (DP.refl _) (lrg27_Group n))) ?_
  refine W.o (bR (cs := c52 ({ Kind := 4, Set := (Arr.rep 4 (0 : Int)), To := 0, Group := n.Group, Last := 0, Slot := 0 } : T52)) rfl rfl) ?_
  obtain ⟨r_1, g_2, hF⟩ := bind_some hF
  refine cl (ale rfl) (d27 _ _ _ g_2 _ _ iP0 (fun st hs => ?_) _ hs)
  refine rn 1 rfl ?_
  refine W.o (e_faddrD rfl) ?_
  refine W.o (e_load1D rfl (DP.fld (DP.refl _) (lrg27_Kids n))) ?_
  obtain ⟨v_3, g_4, hF⟩ := bind_some hF
  refine W.o (e_iaddrL (rd_V rfl) rfl g_4) ?_
  refine W.o (e_loadND rfl (DP.refl _) (c27_len _)) ?_
  obtain ⟨r_5, g_6, hF⟩ := bind_some hF
  refine cl (ale rfl) (ih (.e26 r_1.2 v_3) _ g_6 _ _ iP0 (fun st hs => ?_) _ hs)
  refine rn 1 rfl ?_
  refine W.o (e_faddrD rfl) ?_
  refine W.o (e_load1D rfl (DP.fld (DP.refl _) (lrg27_Group n))) ?_
  refine W.o (bR (cs := c52 ({ Kind := 5, Set := (Arr.rep 4 (0 : Int)), To := 0, Group := n.Group, Last := 0, Slot := 0 } : T52)) rfl rfl) ?_
  obtain ⟨r_7, g_8, hF⟩ := bind_some hF
  refine cl (ale rfl) (d27 _ _ _ g_8 _ _ iP0 (fun st hs => ?_) _ hs)
  refine rn 0 rfl ?_
  cases hF
  exact eS rl0 (hK _ hs) rfl
 | e53 c n =>
  dsimp only at hF
  intro K Ls iP0 hK  st hs
  refine bS k53 rfl ?_
  refine rn 0 rfl ?_
  refine W.o (e_boxD (cs := c27 n) rfl (by rw [c27_len]; rfl) (c27_one _)) ?_
  refine rn 1 rfl ?_
  refine W.o (e_faddrD rfl) ?_
  refine W.o (e_load1D rfl (DP.fld (DP.refl _) (lrg27_Kids n))) ?_
  refine W.o (e_len (rd_V rfl)) ?_
  refine rn 2 rfl ?_
  refine W.o (e_faddrD rfl) ?_
  refine W.o (e_load1D rfl (DP.fld (DP.refl _) (lrg27_Kids n))) ?_
  obtain ⟨w_1, g_2, hF⟩ := bind_some hF
  refine rn 1 rfl ?_
  refine W.o (e_slLh (rd_V rfl) rfl g_2) ?_
  refine W.o (e_len (rd_V rfl)) ?_
  refine rn 1 rfl ?_
  have hs := hs.ownNil Int
  exact ih _ _ hF K Ls iP0 hK _ _ 0 ⟨rfl, rfl, rfl, rfl, rfl, rfl, rfl, trivial⟩ (hs.p 2 [1, 0] rfl)
 | p53_1 n last t18_ t19_ t20_ c out =>
  dsimp only at hF
  intro K Ls iP0 hK tm st io1 hf hs
  refine en hf ?_
  refine lp ?_
  refine rn 1 rfl ?_
  refine ci hF rfl (fun c_4 hF => ?_) (fun c_4 hF => ?_)
  · obtain ⟨v_5, g_6, hF⟩ := bind_some hF
    refine rn 0 rfl ?_
    refine W.o (e_iaddrL (rd_V rfl) rfl g_6) ?_
    refine W.o (e_loadND rfl (DP.refl _) (c27_len _)) ?_
    refine al hs (cs := c27 ({ Kind := 0, Set := (Arr.rep 4 (0 : Int)), Min := 0, Max := 0, Group := 0, Kids := none } : T27)) rfl fun st b_7 hs => ?_
    refine sl hs 0 rfl rfl (LR.whole _ _) (c27_len _) rfl (c27_len _) (c27_one _) rfl fun st hs => ?_
    refine rn 1 rfl ?_
    refine W.o (bR (cs := c52 ({ Kind := 2, Set := (Arr.rep 4 (0 : Int)), To := 0, Group := 0, Last := 0, Slot := 0 } : T52)) rfl rfl) ?_
    obtain ⟨r_8, g_9, hF⟩ := bind_some hF
    refine cl (ale rfl) (d27 _ _ _ g_9 _ _ iP0 (fun st hs => ?_) _ (hs.p 3 [1, 0, 0] rfl))
    refine rn 2 rfl ?_
    refine W.o (e_loadN rfl (hs.g 1 rfl) (LR.whole _ _) (c27_len _)) ?_
    obtain ⟨r_10, g_11, hF⟩ := bind_some hF
    refine cl (ale rfl) (ih (.e26 r_8.2 v_5) _ g_11 _ _ iP0 (fun st hs => ?_) _ hs)
    refine rn 2 rfl ?_
    refine W.o (bR (cs := c52 ({ Kind := 3, Set := (Arr.rep 4 (0 : Int)), To := 0, Group := 0, Last := 0, Slot := 0 } : T52)) rfl rfl) ?_
    obtain ⟨r_12, g_13, hF⟩ := bind_some hF
    refine cl (ale rfl) (d27 _ _ _ g_13 _ _ iP0 (fun st hs => ?_) _ hs)
    refine bs (f := AV.int .i64) ([r_12.1] : List Int) hs rfl rfl rfl rfl fun st b_14 hs => ?_
    obtain ⟨g_15, hF⟩ := grd_some hF
    refine ap (ys := ls (some ([r_12.1] : List Int))) hs 3 rfl rfl (ae_rd (rd_W (o := (some ([r_12.1] : List Int))) (id := b_14) rfl)) g_15 (fun _ => rfl) fun st b_16 hs => ?_
    have hs := (hs.p 4 [1, 0, 0, 0] rfl)
    obtain ⟨j_17, hs⟩ := SH.bx1o hs
    refine rn 1 rfl ?_
    have h0 := hs
    refine dr0 ?_
    refine dn 1 rfl ?_
    refine de rfl (e_nilck rfl (h0.g 0 rfl)) ?_
    refine de rfl (e_faddr rfl (h0.g 0 rfl)) ?_
    refine de rfl (l1 rfl (h0.g 0 rfl) rfl) ?_
    refine dn 2 rfl ?_
    refine de rfl (e_nilck rfl (h0.g 0 rfl)) ?_
    refine de rfl (e_faddr rfl (h0.g 0 rfl)) ?_
    refine de rfl (l1 rfl (h0.g 0 rfl) rfl) ?_
    refine de rfl (e_lenV h0 1 rfl rfl) ?_
    obtain ⟨v_18, g_19, hF⟩ := bind_some hF
    refine de rfl (e_iaddrV h0 1 rfl rfl rfl g_19) ?_
    refine de rfl (e_faddr rfl (SH.gv h0 1 rfl g_19)) ?_
    refine dz ?_
    refine slv hs 1 rfl rfl g_19 rfl (LR.cast (LR.comp (LR.comp (LR.whole _ _) (lrV_set c52_len g_19 ({ v_18 with To := ((ls r_12.2.code).length : Int) } : T52))) (lrx 5 1 (cI .i64 ((ls r_12.2.code).length : Int)) rfl rfl)) (by omega)) ((cI_len .i64) _) rfl ((cI_len .i64) _) ((cI_one .i64) _) rfl fun st hs => ?_
    have hs := hs.cong 0 rfl (cs' := [rvV 9 (vset r_12.2.code r_8.1 ({ v_18 with To := ((ls r_12.2.code).length : Int) } : T52)) j_17] ++ ((cI .i64) (r_12.2.slots) ++ ((cI .i64) (r_12.2.free)))) (by simp only [rvV_vset]) rfl
    refine rn 2 rfl ?_
    have hs : SH st (bx65_0r iP0 ({ r_12.2 with code := (vset r_12.2.code r_8.1 ({ v_18 with To := ((ls r_12.2.code).length : Int) } : T52)) } : T65) :: _) := SH.bx1c j_17 (hs.p 5 [0, 0, 0, 0, 0] rfl)
    exact ih _ _ hF K Ls iP0 hK _ _ b_16 ⟨rfl, rfl, rfl, rfl, rfl, rfl, rfl, trivial⟩ (hs.p 4 [0, 2] rfl)
  refine rn 1 rfl ?_
  refine W.o (e_faddrD rfl) ?_
  refine W.o (e_load1D rfl (DP.fld (DP.refl _) (lrg27_Kids n))) ?_
  obtain ⟨v_20, g_21, hF⟩ := bind_some hF
  refine rn 1 rfl ?_
  refine W.o (e_iaddrL (rd_V rfl) rfl g_21) ?_
  refine W.o (e_loadND rfl (DP.refl _) (c27_len _)) ?_
  obtain ⟨r_22, g_23, hF⟩ := bind_some hF
  refine cl (ale rfl) (ih (.e26 c v_20) _ g_23 _ _ iP0 (fun st hs => ?_) _ hs)
  refine rn 1 rfl ?_
  refine W.o (e_len (rd_W (o := out) (id := io1) rfl)) ?_
  refine rn 1 rfl ?_
  refine wkl (weak_strp (S := [56]) ⟨(dsw (es := 1) (f := AV.int .i64) (o := out) (id := io1)).1, trivial⟩) ?_
  exact ih _ _ hF K Ls iP0 hK _ _ ⟨rfl, (dsw (es := 1) (f := AV.int .i64) (o := out) (id := io1)).2, rfl, rfl, trivial⟩ (hs.p 2 [0] rfl)
 | p53_2 t56_ t57_ t58_ c =>
  dsimp only at hF
  intro K Ls iP0 hK tm st hf hs
  refine en hf ?_
  refine lp ?_
  refine rn 1 rfl ?_
  refine ci hF rfl (fun c_24 hF => ?_) (fun c_24 hF => ?_)
  · obtain ⟨v_25, g_26, hF⟩ := bind_some hF
    refine rn 0 rfl ?_
    refine W.o (e_iaddrL (rd_V rfl) rfl g_26) ?_
    refine W.o (l1D rfl rfl) ?_
    obtain ⟨j_27, hs⟩ := SH.bx1o hs
    refine rn 1 rfl ?_
    have h0 := hs
    refine dr0 ?_
    refine dn 1 rfl ?_
    refine de rfl (e_nilck rfl (h0.g 0 rfl)) ?_
    refine de rfl (e_faddr rfl (h0.g 0 rfl)) ?_
    refine de rfl (l1 rfl (h0.g 0 rfl) rfl) ?_
    refine dn 2 rfl ?_
    refine de rfl (e_nilck rfl (h0.g 0 rfl)) ?_
    refine de rfl (e_faddr rfl (h0.g 0 rfl)) ?_
    refine de rfl (l1 rfl (h0.g 0 rfl) rfl) ?_
    refine de rfl (e_lenV h0 1 rfl rfl) ?_
    obtain ⟨v_28, g_29, hF⟩ := bind_some hF
    refine de rfl (e_iaddrV h0 1 rfl rfl rfl g_29) ?_
    refine de rfl (e_faddr rfl (SH.gv h0 1 rfl g_29)) ?_
    refine dz ?_
    refine slv hs 1 rfl rfl g_29 rfl (LR.cast (LR.comp (LR.comp (LR.whole _ _) (lrV_set c52_len g_29 ({ v_28 with To := ((ls c.code).length : Int) } : T52))) (lrx 5 1 (cI .i64 ((ls c.code).length : Int)) rfl rfl)) (by omega)) ((cI_len .i64) _) rfl ((cI_len .i64) _) ((cI_one .i64) _) rfl fun st hs => ?_
    have hs := hs.cong 0 rfl (cs' := [rvV 9 (vset c.code v_25 ({ v_28 with To := ((ls c.code).length : Int) } : T52)) j_27] ++ ((cI .i64) (c.slots) ++ ((cI .i64) (c.free)))) (by simp only [rvV_vset]) rfl
    refine rn 2 rfl ?_
    have hs : SH st (bx65_0r iP0 ({ c with code := (vset c.code v_25 ({ v_28 with To := ((ls c.code).length : Int) } : T52)) } : T65) :: _) := SH.bx1c j_27 (hs.p 2 [0, 0] rfl)
    exact ih _ _ hF K Ls iP0 hK _ _ ⟨rfl, rfl, rfl, rfl, trivial⟩ hs
  refine rn 0 rfl ?_
  cases hF
  exact eS rl0 (hK _ hs) rfl
 | e54 c n =>
  dsimp only at hF
  intro K Ls iP0 hK  st hs
  refine bS k54 rfl ?_
  refine rn 0 rfl ?_
  refine W.o (e_boxD (cs := c27 n) rfl (by rw [c27_len]; rfl) (c27_one _)) ?_
  refine rn 0 rfl ?_
  refine W.o (e_faddrD rfl) ?_
  refine W.o (e_load1D rfl (DP.fld (DP.refl _) (lrg27_Min n))) ?_
  refine rn 1 rfl ?_
  exact ih _ _ hF K Ls iP0 hK _ _ ⟨rfl, rfl, rfl, rfl, trivial⟩ hs
 | p54_1 n t10_ t11_ c =>
  dsimp only at hF
  intro K Ls iP0 hK tm st hf hs
  refine en hf ?_
  refine lp ?_
  refine rn 1 rfl ?_
  refine ci hF rfl (fun c_1 hF => ?_) (fun c_1 hF => ?_)
  · obtain ⟨j_2, hs⟩ := SH.bx1o hs
    refine rn 1 rfl ?_
    refine W.o (e_nilck rfl (hs.g 0 rfl)) ?_
    refine W.o (e_faddr rfl (hs.g 0 rfl)) ?_
    refine W.o (l1 rfl (hs.g 0 rfl) rfl) ?_
    refine W.o (e_lenV hs 1 rfl rfl) ?_
    refine rn 2 rfl ?_
    refine W.o (e_faddrD rfl) ?_
    refine W.o (e_load1D rfl (DP.fld (DP.refl _) (lrg27_Kids n))) ?_
    obtain ⟨v_3, g_4, hF⟩ := bind_some hF
    refine W.o (e_iaddrL (rd_V rfl) rfl g_4) ?_
    refine W.o (e_loadND rfl (DP.refl _) (c27_len _)) ?_
    have hs : SH st (bx65_0r iP0 c :: _) := SH.bx1c j_2 (hs.p 2 [0, 0] rfl)
    obtain ⟨r_5, g_6, hF⟩ := bind_some hF
    refine cl (ale rfl) (ih (.e59 c v_3 false) _ g_6 _ _ iP0 (fun st hs => ?_) _ hs)
    obtain ⟨j_7, hs⟩ := SH.bx1o hs
    refine rn 1 rfl ?_
    refine W.o (e_nilck rfl (hs.g 0 rfl)) ?_
    refine W.o (e_faddr rfl (hs.g 0 rfl)) ?_
    refine W.o (l1 rfl (hs.g 0 rfl) rfl) ?_
    refine W.o (e_lenV hs 1 rfl rfl) ?_
    refine rn 2 rfl ?_
    refine ci hF rfl (fun c_8 hF => ?_) (fun c_8 hF => ?_)
    · refine rj 0 1 rfl ?_
      have hs : SH st (bx65_0r iP0 r_5 :: _) := SH.bx1c j_7 (hs.p 2 [0, 0] rfl)
      exact ih _ _ hF K Ls iP0 hK _ _ ⟨rfl, rfl, trivial⟩ hs
    refine rn 2 rfl ?_
    have hs : SH st (bx65_0r iP0 r_5 :: _) := SH.bx1c j_7 (hs.p 2 [0, 0] rfl)
    exact ih _ _ hF K Ls iP0 hK _ _ ⟨rfl, rfl, rfl, rfl, trivial⟩ hs
  refine rj 0 1 rfl ?_
  exact ih _ _ hF K Ls iP0 hK _ _ ⟨rfl, rfl, trivial⟩ hs
 | p54_2 n c =>
  dsimp only at hF
  intro K Ls iP0 hK tm st hf hs
  refine en hf ?_
  refine rn 0 rfl ?_
  refine W.o (e_faddrD rfl) ?_
  refine W.o (e_load1D rfl (DP.fld (DP.refl _) (lrg27_Max n))) ?_
  refine rn 1 rfl ?_
  refine ci hF rfl (fun c_9 hF => ?_) (fun c_9 hF => ?_)
  · refine rn 1 rfl ?_
    refine W.o (bR (cs := c52 ({ Kind := 2, Set := (Arr.rep 4 (0 : Int)), To := 0, Group := 0, Last := 0, Slot := 0 } : T52)) rfl rfl) ?_
    obtain ⟨r_10, g_11, hF⟩ := bind_some hF
    refine cl (ale rfl) (d27 _ _ _ g_11 _ _ iP0 (fun st hs => ?_) _ hs)
    refine rn 2 rfl ?_
    refine W.o (e_faddrD rfl) ?_
    refine W.o (e_load1D rfl (DP.fld (DP.refl _) (lrg27_Kids n))) ?_
    obtain ⟨v_12, g_13, hF⟩ := bind_some hF
    refine W.o (e_iaddrL (rd_V rfl) rfl g_13) ?_
    refine W.o (e_loadND rfl (DP.refl _) (c27_len _)) ?_
    obtain ⟨r_14, g_15, hF⟩ := bind_some hF
    refine cl (ale rfl) (ih (.e59 r_10.2 v_12 true) _ g_15 _ _ iP0 (fun st hs => ?_) _ hs)
    refine rn 2 rfl ?_
    refine W.o (bR (cs := c52 ({ Kind := 3, Set := (Arr.rep 4 (0 : Int)), To := r_10.1, Group := 0, Last := 0, Slot := 0 } : T52)) rfl rfl) ?_
    obtain ⟨r_16, g_17, hF⟩ := bind_some hF
    refine cl (ale rfl) (d27 _ _ _ g_17 _ _ iP0 (fun st hs => ?_) _ hs)
    obtain ⟨j_18, hs⟩ := SH.bx1o hs
    refine rn 0 rfl ?_
    have h0 := hs
    refine dr0 ?_
    refine dn 1 rfl ?_
    refine de rfl (e_nilck rfl (h0.g 0 rfl)) ?_
    refine de rfl (e_faddr rfl (h0.g 0 rfl)) ?_
    refine de rfl (l1 rfl (h0.g 0 rfl) rfl) ?_
    refine dn 2 rfl ?_
    refine de rfl (e_nilck rfl (h0.g 0 rfl)) ?_
    refine de rfl (e_faddr rfl (h0.g 0 rfl)) ?_
    refine de rfl (l1 rfl (h0.g 0 rfl) rfl) ?_
    refine de rfl (e_lenV h0 1 rfl rfl) ?_
    obtain ⟨v_19, g_20, hF⟩ := bind_some hF
    refine de rfl (e_iaddrV h0 1 rfl rfl rfl g_20) ?_
    refine de rfl (e_faddr rfl (SH.gv h0 1 rfl g_20)) ?_
    refine dz ?_
    refine slv hs 1 rfl rfl g_20 rfl (LR.cast (LR.comp (LR.comp (LR.whole _ _) (lrV_set c52_len g_20 ({ v_19 with To := ((ls r_16.2.code).length : Int) } : T52))) (lrx 5 1 (cI .i64 ((ls r_16.2.code).length : Int)) rfl rfl)) (by omega)) ((cI_len .i64) _) rfl ((cI_len .i64) _) ((cI_one .i64) _) rfl fun st hs => ?_
    have hs := hs.cong 0 rfl (cs' := [rvV 9 (vset r_16.2.code r_10.1 ({ v_19 with To := ((ls r_16.2.code).length : Int) } : T52)) j_18] ++ ((cI .i64) (r_16.2.slots) ++ ((cI .i64) (r_16.2.free)))) (by simp only [rvV_vset]) rfl
    refine rn 0 rfl ?_
    have hs : SH st (bx65_0r iP0 ({ r_16.2 with code := (vset r_16.2.code r_10.1 ({ v_19 with To := ((ls r_16.2.code).length : Int) } : T52)) } : T65) :: _) := SH.bx1c j_18 (hs.p 2 [0, 0] rfl)
    cases hF
    exact rS rl0 (hK _ hs) rfl
  refine rn 1 rfl ?_
  refine W.o (e_faddrD rfl) ?_
  refine W.o (e_load1D rfl (DP.fld (DP.refl _) (lrg27_Max n))) ?_
  refine W.o (e_faddrD rfl) ?_
  refine W.o (e_load1D rfl (DP.fld (DP.refl _) (lrg27_Min n))) ?_
  refine rn 2 rfl ?_
  have hs := hs.ownNil Int
  exact ih _ _ hF K Ls iP0 hK _ _ 0 ⟨rfl, rfl, rfl, rfl, rfl, trivial⟩ (hs.p 2 [1, 0] rfl)
 | p54_3 n t64_ t65_ c out =>
  dsimp only at hF
  intro K Ls iP0 hK tm st io1 hf hs
  refine en hf ?_
  refine lp ?_
  refine rn 1 rfl ?_
  refine ci hF rfl (fun c_22 hF => ?_) (fun c_22 hF => ?_)
  · refine rn 2 rfl ?_
    refine W.o (bR (cs := c52 ({ Kind := 2, Set := (Arr.rep 4 (0 : Int)), To := 0, Group := 0, Last := 0, Slot := 0 } : T52)) rfl rfl) ?_
    obtain ⟨r_23, g_24, hF⟩ := bind_some hF
    refine cl (ale rfl) (d27 _ _ _ g_24 _ _ iP0 (fun st hs => ?_) _ hs)
    refine bs (f := AV.int .i64) ([r_23.1] : List Int) hs rfl rfl rfl rfl fun st b_25 hs => ?_
    obtain ⟨g_26, hF⟩ := grd_some hF
    refine ap (ys := ls (some ([r_23.1] : List Int))) hs 2 rfl rfl (ae_rd (rd_W (o := (some ([r_23.1] : List Int))) (id := b_25) rfl)) g_26 (fun _ => rfl) fun st b_27 hs => ?_
    refine rn 2 rfl ?_
    refine W.o (e_faddrD rfl) ?_
    refine W.o (e_load1D rfl (DP.fld (DP.refl _) (lrg27_Kids n))) ?_
    obtain ⟨v_28, g_29, hF⟩ := bind_some hF
    refine W.o (e_iaddrL (rd_V rfl) rfl g_29) ?_
    refine W.o (e_loadND rfl (DP.refl _) (c27_len _)) ?_
    obtain ⟨r_30, g_31, hF⟩ := bind_some hF
    refine cl (ale rfl) (ih (.e59 r_23.2 v_28 true) _ g_31 _ _ iP0 (fun st hs => ?_) _ (hs.p 3 [1, 0, 0] rfl))
    refine rn 2 rfl ?_
    exact ih _ _ hF K Ls iP0 hK _ _ b_27 ⟨rfl, rfl, rfl, rfl, rfl, trivial⟩ (hs.p 3 [0, 1] rfl)
  refine rn 1 rfl ?_
  refine W.o (e_len (rd_W (o := out) (id := io1) rfl)) ?_
  refine rn 1 rfl ?_
  refine wkl (weak_strp (S := [80]) ⟨(dsw (es := 1) (f := AV.int .i64) (o := out) (id := io1)).1, trivial⟩) ?_
  exact ih _ _ hF K Ls iP0 hK _ _ ⟨rfl, (dsw (es := 1) (f := AV.int .i64) (o := out) (id := io1)).2, rfl, rfl, trivial⟩ (hs.p 2 [0] rfl)
 | p54_4 t80_ t81_ t82_ c =>
  dsimp only at hF
  intro K Ls iP0 hK tm st hf hs
  refine en hf ?_
  refine lp ?_
  refine rn 1 rfl ?_
  refine ci hF rfl (fun c_32 hF => ?_) (fun c_32 hF => ?_)
  · obtain ⟨v_33, g_34, hF⟩ := bind_some hF
    refine rn 0 rfl ?_
    refine W.o (e_iaddrL (rd_V rfl) rfl g_34) ?_
    refine W.o (l1D rfl rfl) ?_
    obtain ⟨j_35, hs⟩ := SH.bx1o hs
    refine rn 1 rfl ?_
    have h0 := hs
    refine dr0 ?_
    refine dn 1 rfl ?_
    refine de rfl (e_nilck rfl (h0.g 0 rfl)) ?_
    refine de rfl (e_faddr rfl (h0.g 0 rfl)) ?_
    refine de rfl (l1 rfl (h0.g 0 rfl) rfl) ?_
    refine dn 2 rfl ?_
    refine de rfl (e_nilck rfl (h0.g 0 rfl)) ?_
    refine de rfl (e_faddr rfl (h0.g 0 rfl)) ?_
    refine de rfl (l1 rfl (h0.g 0 rfl) rfl) ?_
    refine de rfl (e_lenV h0 1 rfl rfl) ?_
    obtain ⟨v_36, g_37, hF⟩ := bind_some hF
    refine de rfl (e_iaddrV h0 1 rfl rfl rfl g_37) ?_
    refine de rfl (e_faddr rfl (SH.gv h0 1 rfl g_37)) ?_
    refine dz ?_
    refine slv hs 1 rfl rfl g_37 rfl (LR.cast (LR.comp (LR.comp (LR.whole _ _) (lrV_set c52_len g_37 ({ v_36 with To := ((ls c.code).length : Int) } : T52))) (lrx 5 1 (cI .i64 ((ls c.code).length : Int)) rfl rfl)) (by omega)) ((cI_len .i64) _) rfl ((cI_len .i64) _) ((cI_one .i64) _) rfl fun st hs => ?_
    have hs := hs.cong 0 rfl (cs' := [rvV 9 (vset c.code v_33 ({ v_36 with To := ((ls c.code).length : Int) } : T52)) j_35] ++ ((cI .i64) (c.slots) ++ ((cI .i64) (c.free)))) (by simp only [rvV_vset]) rfl
    refine rn 2 rfl ?_
    have hs : SH st (bx65_0r iP0 ({ c with code := (vset c.code v_33 ({ v_36 with To := ((ls c.code).length : Int) } : T52)) } : T65) :: _) := SH.bx1c j_35 (hs.p 2 [0, 0] rfl)
    exact ih _ _ hF K Ls iP0 hK _ _ ⟨rfl, rfl, rfl, rfl, trivial⟩ hs
  refine rn 0 rfl ?_
  cases hF
  exact eS rl0 (hK _ hs) rfl
 | e59 c n free =>
  dsimp only at hF
  intro K Ls iP0 hK  st hs
  refine bS k59 rfl ?_
  refine rn 0 rfl ?_
  refine W.o (e_boxD (cs := c27 n) rfl (by rw [c27_len]; rfl) (c27_one _)) ?_
  obtain ⟨j_1, hs⟩ := SH.bx1o hs
  refine rn 1 rfl ?_
  refine W.o (e_nilck rfl (hs.g 0 rfl)) ?_
  refine W.o (e_faddr rfl (hs.g 0 rfl)) ?_
  refine W.o (l1 rfl (hs.g 0 rfl) rfl) ?_
  refine rn 2 rfl ?_
  refine ci hF rfl (fun c_2 hF => ?_) (fun c_2 hF => ?_)
  · refine rn 2 rfl ?_
    refine W.o (bR (cs := c52 ({ Kind := 7, Set := (Arr.rep 4 (0 : Int)), To := 0, Group := 0, Last := 0, Slot := c.free } : T52)) rfl rfl) ?_
    have hs : SH st (bx65_0r iP0 c :: _) := SH.bx1c j_1 (hs.p 2 [0, 0] rfl)
    obtain ⟨r_3, g_4, hF⟩ := bind_some hF
    refine cl (ale rfl) (d27 _ _ _ g_4 _ _ iP0 (fun st hs => ?_) _ hs)
    obtain ⟨j_5, hs⟩ := SH.bx1o hs
    refine rn 1 rfl ?_
    refine W.o (e_nilck rfl (hs.g 0 rfl)) ?_
    refine W.o (e_faddr rfl (hs.g 0 rfl)) ?_
    refine W.o (l1 rfl (hs.g 0 rfl) rfl) ?_
    refine rn 1 rfl ?_
    refine W.o (e_nilck rfl (hs.g 0 rfl)) ?_
    refine W.o (e_faddr rfl (hs.g 0 rfl)) ?_
    refine sr hs 0 rfl rfl rfl (cs' := [rvV 9 r_3.2.code j_5] ++ ((cI .i64) (({ r_3.2 with free := IntKind.wrap .i64 (r_3.2.free + 1) } : T65).slots) ++ ((cI .i64) (({ r_3.2 with free := IntKind.wrap .i64 (r_3.2.free + 1) } : T65).free)))) rfl rfl fun st hs => ?_
    refine rn 0 rfl ?_
    have h0 := hs
    refine dr0 ?_
    refine dn 2 rfl ?_
    refine de rfl (e_nilck rfl (h0.g 0 rfl)) ?_
    refine de rfl (e_faddr rfl (h0.g 0 rfl)) ?_
    refine de rfl (l1 rfl (h0.g 0 rfl) rfl) ?_
    refine dn 1 rfl ?_
    refine de rfl (e_nilck rfl (h0.g 0 rfl)) ?_
    refine de rfl (e_faddr rfl (h0.g 0 rfl)) ?_
    refine de rfl (l1 rfl (h0.g 0 rfl) rfl) ?_
    refine dn 1 rfl ?_
    refine de rfl (e_nilck rfl (h0.g 0 rfl)) ?_
    refine de rfl (e_faddr rfl (h0.g 0 rfl)) ?_
    refine dz ?_
    refine sr hs 0 rfl rfl rfl (cs' := [rvV 9 r_3.2.code j_5] ++ ((cI .i64) (({ r_3.2 with free := IntKind.wrap .i64 (r_3.2.free + 1), slots := (if (IntKind.wrap .i64 (r_3.2.free + 1)) > r_3.2.slots then (IntKind.wrap .i64 (r_3.2.free + 1)) else r_3.2.slots) } : T65).slots) ++ ((cI .i64) (({ r_3.2 with free := IntKind.wrap .i64 (r_3.2.free + 1), slots := (if (IntKind.wrap .i64 (r_3.2.free + 1)) > r_3.2.slots then (IntKind.wrap .i64 (r_3.2.free + 1)) else r_3.2.slots) } : T65).free)))) rfl rfl fun st hs => ?_
    refine rj 0 1 rfl ?_
    have hs : SH st (bx65_0r iP0 ({ r_3.2 with free := IntKind.wrap .i64 (r_3.2.free + 1), slots := (if (IntKind.wrap .i64 (r_3.2.free + 1)) > r_3.2.slots then (IntKind.wrap .i64 (r_3.2.free + 1)) else r_3.2.slots) } : T65) :: _) := SH.bx1c j_5 (hs.p 2 [0, 0] rfl)
    exact ih _ _ hF K Ls iP0 hK _ _ ⟨rfl, rfl, rfl, rfl, trivial⟩ hs
  refine rj 0 1 rfl ?_
  have hs : SH st (bx65_0r iP0 c :: _) := SH.bx1c j_1 (hs.p 2 [0, 0] rfl)
  exact ih _ _ hF K Ls iP0 hK _ _ ⟨rfl, rfl, rfl, rfl, trivial⟩ hs
 | p59_1 free n slot c =>
  dsimp only at hF
  intro K Ls iP0 hK tm st hf hs
  refine en hf ?_
  refine rn 0 rfl ?_
  refine W.o (e_loadND rfl (DP.refl _) (c27_len _)) ?_
  obtain ⟨r_6, g_7, hF⟩ := bind_some hF
  refine df (d38 n _ g_7) rfl ?_
  refine rn 7 rfl ?_
  refine ci hF rfl (fun c_8 hF => ?_) (fun c_8 hF => ?_)
  · refine rn 3 rfl ?_
    refine W.o (bR (cs := c52 ({ Kind := 6, Set := (Arr.rep 4 (0 : Int)), To := 0, Group := r_6.1, Last := r_6.2, Slot := 0 } : T52)) rfl rfl) ?_
    obtain ⟨r_9, g_10, hF⟩ := bind_some hF
    refine cl (ale rfl) (d27 _ _ _ g_10 _ _ iP0 (fun st hs => ?_) _ hs)
    refine rj 0 1 rfl ?_
    exact ih _ _ hF K Ls iP0 hK _ _ ⟨rfl, rfl, rfl, rfl, trivial⟩ hs
  refine rj 0 1 rfl ?_
  exact ih _ _ hF K Ls iP0 hK _ _ ⟨rfl, rfl, rfl, rfl, trivial⟩ hs
 | p59_2 free n slot c =>
  dsimp only at hF
  intro K Ls iP0 hK tm st hf hs
  refine en hf ?_
  refine rn 1 rfl ?_
  refine W.o (e_loadND rfl (DP.refl _) (c27_len _)) ?_
  obtain ⟨r_11, g_12, hF⟩ := bind_some hF
  refine cl (ale rfl) (ih (.e26 c n) _ g_12 _ _ iP0 (fun st hs => ?_) _ hs)
  refine rn 1 rfl ?_
  refine ci hF rfl (fun c_13 hF => ?_) (fun c_13 hF => ?_)
  · obtain ⟨j_14, hs⟩ := SH.bx1o hs
    refine rn 1 rfl ?_
    refine W.o (e_nilck rfl (hs.g 0 rfl)) ?_
    refine W.o (e_faddr rfl (hs.g 0 rfl)) ?_
    refine W.o (l1 rfl (hs.g 0 rfl) rfl) ?_
    refine rn 1 rfl ?_
    refine W.o (e_nilck rfl (hs.g 0 rfl)) ?_
    refine W.o (e_faddr rfl (hs.g 0 rfl)) ?_
    refine sr hs 0 rfl rfl rfl (cs' := [rvV 9 r_11.code j_14] ++ ((cI .i64) (({ r_11 with free := IntKind.wrap .i64 (r_11.free - 1) } : T65).slots) ++ ((cI .i64) (({ r_11 with free := IntKind.wrap .i64 (r_11.free - 1) } : T65).free)))) rfl rfl fun st hs => ?_
    refine rn 2 rfl ?_
    refine W.o (bR (cs := c52 ({ Kind := 8, Set := (Arr.rep 4 (0 : Int)), To := 0, Group := 0, Last := 0, Slot := slot } : T52)) rfl rfl) ?_
    have hs : SH st (bx65_0r iP0 ({ r_11 with free := IntKind.wrap .i64 (r_11.free - 1) } : T65) :: _) := SH.bx1c j_14 (hs.p 2 [0, 0] rfl)
    obtain ⟨r_15, g_16, hF⟩ := bind_some hF
    refine cl (ale rfl) (d27 _ _ _ g_16 _ _ iP0 (fun st hs => ?_) _ hs)
    refine rn 0 rfl ?_
    cases hF
    exact eS rl0 (hK _ hs) rfl
  refine rn 0 rfl ?_
  cases hF
  exact eS rl0 (hK _ hs) rfl
noncomputable def F26 (c : T65) (n : T27) : Option T65 := G26r (.e26 c n)
theorem d26 (c : T65) (n : T27) (r : T65) (hF : F26 c n = some r) : ∀ (K : AV → Store → Prop) (Ls : List Asn) (iP0 : Nat), (∀ st, SH st (bx65_0r iP0 r :: Ls) → K (AV.tup []) st) → ∀ (st : Store), SH st (bx65_0r iP0 c :: Ls) → XCall Try.prog noG 26 [.ptr iP0 0, v27 n] st K := by
 exact w26r (.e26 c n) r hF
noncomputable def F51 (c : T65) (n : T27) : Option T65 := G26r (.e51 c n)
theorem d51 (c : T65) (n : T27) (r : T65) (hF : F51 c n = some r) : ∀ (K : AV → Store → Prop) (Ls : List Asn) (iP0 : Nat), (∀ st, SH st (bx65_0r iP0 r :: Ls) → K (AV.tup []) st) → ∀ (st : Store), SH st (bx65_0r iP0 c :: Ls) → XCall Try.prog noG 51 [.ptr iP0 0, v27 n] st K := by
 exact w26r (.e51 c n) r hF
noncomputable def F52 (c : T65) (n : T27) : Option T65 := G26r (.e52 c n)
theorem d52 (c : T65) (n : T27) (r : T65) (hF : F52 c n = some r) : ∀ (K : AV → Store → Prop) (Ls : List Asn) (iP0 : Nat), (∀ st, SH st (bx65_0r iP0 r :: Ls) → K (AV.tup []) st) → ∀ (st : Store), SH st (bx65_0r iP0 c :: Ls) → XCall Try.prog noG 52 [.ptr iP0 0, v27 n] st K := by
 exact w26r (.e52 c n) r hF
noncomputable def F53 (c : T65) (n : T27) : Option T65 := G26r (.e53 c n)
theorem d53 (c : T65) (n : T27) (r : T65) (hF : F53 c n = some r) : ∀ (K : AV → Store → Prop) (Ls : List Asn) (iP0 : Nat), (∀ st, SH st (bx65_0r iP0 r :: Ls) → K (AV.tup []) st) → ∀ (st : Store), SH st (bx65_0r iP0 c :: Ls) → XCall Try.prog noG 53 [.ptr iP0 0, v27 n] st K := by
 exact w26r (.e53 c n) r hF
noncomputable def F54 (c : T65) (n : T27) : Option T65 := G26r (.e54 c n)
theorem d54 (c : T65) (n : T27) (r : T65) (hF : F54 c n = some r) : ∀ (K : AV → Store → Prop) (Ls : List Asn) (iP0 : Nat), (∀ st, SH st (bx65_0r iP0 r :: Ls) → K (AV.tup []) st) → ∀ (st : Store), SH st (bx65_0r iP0 c :: Ls) → XCall Try.prog noG 54 [.ptr iP0 0, v27 n] st K := by
 exact w26r (.e54 c n) r hF
noncomputable def F59 (c : T65) (n : T27) (free : Bool) : Option T65 := G26r (.e59 c n free)
theorem d59 (c : T65) (n : T27) (free : Bool) (r : T65) (hF : F59 c n free = some r) : ∀ (K : AV → Store → Prop) (Ls : List Asn) (iP0 : Nat), (∀ st, SH st (bx65_0r iP0 r :: Ls) → K (AV.tup []) st) → ∀ (st : Store), SH st (bx65_0r iP0 c :: Ls) → XCall Try.prog noG 59 [.ptr iP0 0, v27 n, AV.bool free] st K := by
 exact w26r (.e59 c n free) r hF
def C10_1 : ACode := .s (.ops [q 1 (.boxD 9 0), q 2 (.alloc [(.int .i64 0), (.int .i64 0), .nils]), q 3 (.mv (ki 0))]) (.s (.s (.ops [q 8 (.loadN 9 1), qc 9 9 [8], q 7 (.mv 9), q 10 (.extract 7 0), q 11 (.extract 7 1), q 4 (.mv 10), q 5 (.mv 11)]) (.s (.ops [q 12 (.mv 5), q 13 (.binI .neq 12 (ki 0))]) (.cond 13 (.s (.ops [q 14 (.build [(.int .i64 0), (.int .i64 0), .nils] []), q 15 (.mv 5), q0 (.store 3 2 14), q 3 (.mv 15)]) .ret) .skip))) (.s (.ops [q 16 (.build [.nils, (.int .i64 0), (.int .i64 0)] []), q 17 (.box 3 16), q 6 (.mv 17)]) (.s (.ops [q 18 (.mv 6), q 19 (.loadN 9 1), qc 20 26 [18, 19]]) (.s (.ops [q 21 (.mv 6), q 22 (.build [(.int .u8 0), (.int .u64 0), (.int .u64 0), (.int .u64 0), (.int .u64 0), (.int .i64 0), (.int .i64 0), (.int .i64 0), (.int .i64 0)] [(0, (1, (ku 12)))]), qc 23 27 [21, 22]]) (.s (.draw [] 0 0 [q 24 (.loadN 9 1), q 26 (.mv 6), q 27 (.nilck 26), q 28 (.faddr 1 27), q 29 (.load1 28), q 30 (.mv 6), q 31 (.nilck 30), q 32 (.faddr 0 31), q 33 (.load1 32), qc 25 28 [24], q 34 (.build [(.int .i64 0), (.int .i64 0), .nils] [(0, (1, 25)), (1, (1, 29)), (2, (1, 33))])] [q0 (.store 3 2 34), q 3 (.mv (ki 0))]) .ret)))))
def R10 : List RA := [(.cellN 2 3), (.tmp 3)]
theorem k10 : compF Try.prog (muL [1]) 10 = some ⟨35, C10_1, R10⟩ := by kernel_rfl
noncomputable def F10 (n : T27) : Option (T34 × Int) := (F9 n >>= fun r_2 => (if (r_2.2 != 0) = true then (some (({ Groups := 0, Slots := 0, Code := none } : T34), r_2.2)) else (F26 ({ code := (none : Sl T52), slots := 0, free := 0 } : T65) n >>= fun r_7 => (F27 r_7 ({ Kind := 12, Set := (Arr.rep 4 (0 : Int)), To := 0, Group := 0, Last := 0, Slot := 0 } : T52) >>= fun r_9 => (F28 n >>= fun r_12 => (some (({ Groups := r_12, Slots := r_9.2.slots, Code := r_9.2.code } : T34), 0)))))))
theorem d10 (n : T27) (r : T34 × Int) (hF : F10 n = some r) : DFun Try.prog noG 10 [v27 n] (AV.tup [v34 r.1, AV.int .i64 r.2]) := by
 unfold F10 at hF
 refine bD k10 rfl ?_
 have hs : SH [] [] := SH.nil
 generalize ([] : Store) = st at hs ⊢
 refine rn 0 rfl ?_
 refine W.o (e_boxD (cs := c27 n) rfl (by rw [c27_len]; rfl) (c27_one _)) ?_
 refine al hs (cs := c34 ({ Groups := 0, Slots := 0, Code := none } : T34)) rfl fun st b_1 hs => ?_
 refine rn 1 rfl ?_
 refine W.o (e_loadND rfl (DP.refl _) (c27_len _)) ?_
 obtain ⟨r_2, g_3, hF⟩ := bind_some hF
 refine df (d9 n _ g_3) rfl ?_
 refine rn 7 rfl ?_
 refine ci hF rfl (fun c_4 hF => ?_) (fun c_4 hF => ?_)
 · refine rn 0 rfl ?_
   refine W.o (bR (cs := c34 ({ Groups := 0, Slots := 0, Code := none } : T34)) rfl rfl) ?_
   refine rn 1 rfl ?_
   refine sl hs 0 rfl rfl (LR.whole _ _) (c34_len _) rfl (c34_len _) (c34_one _) rfl fun st hs => ?_
   refine rn 1 rfl ?_
   cases hF
   exact rD (rl_cellN rfl (hs.g 0 rfl) (LR.whole _ _) (c34_len _) (rlt rl0)) rfl
 refine rn 0 rfl ?_
 refine W.o (bR (cs := c65 ({ code := none, slots := 0, free := 0 } : T65)) rfl rfl) ?_
 have hs := hs.rvNil (α := T52) c52
 refine bx hs (cs := [rvV 9 (none : Sl T52) 0] ++ ((cI .i64) (({ code := none, slots := 0, free := 0 } : T65).slots) ++ ((cI .i64) (({ code := none, slots := 0, free := 0 } : T65).free)))) rfl rfl fun st b_5 hs => ?_
 refine rn 2 rfl ?_
 refine W.o (e_loadND rfl (DP.refl _) (c27_len _)) ?_
 have hs : SH st (bx65_0r b_5 ({ code := (none : Sl T52), slots := 0, free := 0 } : T65) :: _) := SH.bx1c 0 (hs.p 3 [0, 0, 0] rfl)
 obtain ⟨r_7, g_8, hF⟩ := bind_some hF
 refine cl (ale rfl) (d26 _ _ _ g_8 _ _ b_5 (fun st hs => ?_) _ hs)
 refine rn 1 rfl ?_
 refine W.o (bR (cs := c52 ({ Kind := 12, Set := (Arr.rep 4 (0 : Int)), To := 0, Group := 0, Last := 0, Slot := 0 } : T52)) rfl rfl) ?_
 obtain ⟨r_9, g_10, hF⟩ := bind_some hF
 refine cl (ale rfl) (d27 _ _ _ g_10 _ _ b_5 (fun st hs => ?_) _ hs)
 refine rj 0 2 rfl ?_
 obtain ⟨j_11, hs⟩ := SH.bx1o hs
 refine frz (off := 0) (es := 9) (c := c52) (g := v52) hs rfl (cs' := c65 r_9.2) rfl rfl c52_len c52_one (fun _ => rfl) fun st hs => ?_
 have h0 := hs
 refine dr0 ?_
 refine de rfl (e_loadND rfl (DP.refl _) (c27_len _)) ?_
 refine dn 1 rfl ?_
 refine de rfl (e_nilck rfl (h0.g 0 rfl)) ?_
 refine de rfl (e_faddr rfl (h0.g 0 rfl)) ?_
 refine de rfl (l1 rfl (h0.g 0 rfl) rfl) ?_
 refine dn 1 rfl ?_
 refine de rfl (e_nilck rfl (h0.g 0 rfl)) ?_
 refine de rfl (e_faddr rfl (h0.g 0 rfl)) ?_
 refine de rfl (l1 rfl (h0.g 0 rfl) rfl) ?_
 obtain ⟨r_12, g_13, hF⟩ := bind_some hF
 refine ddf (d28 n _ g_13) rfl ?_
 refine de rfl (e_build (z := [(.int .i64 0), (.int .i64 0), .nils]) (cs := c34 ({ Groups := r_12, Slots := r_9.2.slots, Code := r_9.2.code } : T34)) (pk_cons (cs := cI .i64 r_12) rfl rfl ((cI_len .i64) _) (by decide) (pk_cons (cs := cI .i64 r_9.2.slots) rfl rfl ((cI_len .i64) _) (by decide) (pk_cons (cs := cSl 9 v52 r_9.2.code) (v := slV 9 v52 r_9.2.code) rfl slV_cells (cSl_len _) (by decide) pk_nil))) (show fillA (c34 ({ Groups := 0, Slots := 0, Code := none } : T34)) _ = _ from (fl_cons (lrx 0 1 (cI .i64 r_12) rfl rfl) (((cI_len .i64) _).trans ((cI_len .i64) _).symm) (fl_cons (lrx 1 1 (cI .i64 r_9.2.slots) rfl rfl) (((cI_len .i64) _).trans ((cI_len .i64) _).symm) (fl_cons (lrx 2 1 (cSl 9 v52 r_9.2.code) rfl rfl) ((cSl_len _).trans (cSl_len _).symm) (fl_nil _)))))) ?_
 refine dz ?_
 refine sl hs 1 rfl rfl (LR.whole _ _) (c34_len _) rfl (c34_len _) (c34_one _) rfl fun st hs => ?_
 refine rn 1 rfl ?_
 cases hF
 exact rD (rl_cellN rfl (hs.g 1 rfl) (LR.whole _ _) (c34_len _) (rlt rl0)) rfl
def C44_1 : ACode := .s (.ops [q 2 (.boxD 4 0), q 4 (.mv (.c (.bool false)))]) (.s (.ops [q 5 (.mv 1), q 6 (.binI .quo 5 (ku 64)), q 7 (.iaddrA 4 1 2 6), q 8 (.load1 7), q 9 (.mv 1), q 10 (.binI .rem 9 (ku 64)), q 11 (.binI .shr 8 10), q 12 (.binI .and 11 (.c (.int .u64 1))), q 13 (.binI .eql 12 (.c (.int .u64 1))), q 4 (.mv 13)]) .ret)
def R44 : List RA := [(.tmp 4)]
theorem k44 : compF Try.prog (muL [2]) 44 = some ⟨14, C44_1, R44⟩ := by kernel_rfl
noncomputable def F44 (s : Arr 4 Int) (c : Int) : Option Bool := (if (0 : Int) ≤ (IntKind.wrap .u8 (Int.tdiv c 64)) ∧ (IntKind.wrap .u8 (Int.tdiv c 64)) < (4 : Int) then (ix s.l (IntKind.wrap .u8 (Int.tdiv c 64)) >>= fun v_2 => (if 0 ≤ (Int.tmod c 64) then (some ((andI .u64 (shrI .u64 v_2 (Int.tmod c 64)) 1) == 1)) else none)) else none)
theorem d44 (s : Arr 4 Int) (c : Int) (r : Bool) (hF : F44 s c = some r) : DFun Try.prog noG 44 [v24 s, AV.int .u8 c] (AV.bool r) := by
 unfold F44 at hF
 refine bD k44 rfl ?_
 have hs : SH [] [] := SH.nil
 generalize ([] : Store) = st at hs ⊢
 refine rn 0 rfl ?_
 refine W.o (e_boxD (cs := c24 s) rfl rfl rfl) ?_
 refine rn 2 rfl ?_
 refine W.o (e_bin rfl rfl (op_quo _ _ _ (by decide))) ?_
 obtain ⟨g_1, hF⟩ := grd_some hF
 obtain ⟨v_2, g_3, hF⟩ := bind_some hF
 refine W.o (e_iaddrAD rfl rfl g_1) ?_
 refine W.o (e_load1D rfl (DP.fld (DP.refl _) (lrF_get (cI_len .u64) g_3))) ?_
 refine rn 1 rfl ?_
 refine W.o (e_bin rfl rfl (op_rem _ _ _ (by decide))) ?_
 obtain ⟨g_4, hF⟩ := grd_some hF
 refine W.o (e_bin rfl rfl (op_shr _ _ _ _ g_4)) ?_
 refine rn 3 rfl ?_
 cases hF
 exact rD (rlt rl0) rfl
def C43_1 : ACode := .s (.ops [q 4 (.boxD 3 0), q 5 (.boxD 1 1), q 6 (.boxD 1 2), q 7 (.boxD 1 3), q 8 (.mv (.c .nilfn))]) (.s (.ops [q 9 (.mkfn 57 [4, 7, 6, 5]), q 8 (.mv 9)]) .ret)
def R43 : List RA := [(.tmp 8)]
theorem k43 : compF Try.prog (muL [4, 5, 6, 7]) 43 = some ⟨10, C43_1, R43⟩ := by kernel_rfl
noncomputable def F43 (p : T34) (text : Str) (place : Int) (from_ : Sl Int) : Option (T34 × Sl Int × Int × Str) := (some (p, from_, place, text))
theorem d43 (p : T34) (text : Str) (place : Int) (from_ : Sl Int) (r : T34 × Sl Int × Int × Str) (hF : F43 p text place from_ = some r) : DFun Try.prog noG 43 [v34 p, AV.str text, AV.int .i64 place, slV 1 (AV.int .i64) from_] (.fn 57 [.dptr (c34 r.1), .dptr (cSl 1 (AV.int .i64) r.2.1), .dptr (cI .i64 r.2.2.1), .dptr (cS r.2.2.2)]) := by
 unfold F43 at hF
 refine bD k43 rfl ?_
 have hs : SH [] [] := SH.nil
 generalize ([] : Store) = st at hs ⊢
 refine rn 0 rfl ?_
 refine W.o (e_boxD (cs := c34 p) rfl rfl (c34_one _)) ?_
 refine W.o (e_boxD (cs := cS text) rfl rfl rfl) ?_
 refine W.o (e_boxD (cs := cI .i64 place) rfl rfl rfl) ?_
 refine W.o (e_boxD (cs := cSl 1 (AV.int .i64) from_) slV_cells rfl (cSl_one _)) ?_
 refine rn 3 rfl ?_
 cases hF
 exact rD (rlt rl0) rfl
def C57_8 : ACode := .s (.ops [q 21 (.binI .lss 20 19)]) (.s (.cond 21 .skip (.exit 0)) (.s (.block 1 (.s (.ops [q 22 (.iaddrL 1 18 20), q 23 (.load1 22), q 8 (.mv 23)]) (.ops [q 24 (.mv 6), q 25 (.mv 8), qc 26 58 [24, 25]]))) (.ops [q 27 (.binI .add 20 (ki 1)), q 20 (.mv 27)])))
def C57_37 : ACode := .cond 47 .ret .skip
def C57_74 : ACode := .s (.ops [q 88 (.load1 3), q 89 (.load1 4), q 90 (.lenS 89), q 91 (.binI .eql 88 90)]) (.cond 91 (.ops [q 92 (.mv 6), q 93 (.mv 10), q 94 (.binI .add 93 (ki 1)), qc 95 58 [92, 94]]) .skip)
def C57_42 : ACode := .s (.ops [q 53 (.faddr 0 11), q 54 (.load1 53)]) (.block 4 (.s (.s (.ops [q 60 (.binI .eql 54 (ku 1)), q 59 (.mv 60)]) (.cond 59 .skip (.ops [q 61 (.binI .eql 54 (ku 12)), q 59 (.mv 61)]))) (.cond 59 .skip (.s (.ops [q 63 (.binI .eql 54 (ku 2)), q 62 (.mv 63)]) (.cond 62 (.s (.ops [q 64 (.mv 6), q 65 (.mv 10), q 66 (.binI .add 65 (ki 1)), qc 67 58 [64, 66]]) (.ops [q 68 (.mv 6), q 69 (.faddr 5 11), q 70 (.load1 69), qc 71 58 [68, 70]])) (.s (.ops [q 73 (.binI .eql 54 (ku 3)), q 72 (.mv 73)]) (.cond 72 (.ops [q 74 (.mv 6), q 75 (.faddr 5 11), q 76 (.load1 75), qc 77 58 [74, 76]]) (.s (.ops [q 79 (.binI .eql 54 (ku 10)), q 78 (.mv 79)]) (.cond 78 (.s (.ops [q 80 (.load1 3), q 81 (.binI .eql 80 (ki 0))]) (.cond 81 (.ops [q 82 (.mv 6), q 83 (.mv 10), q 84 (.binI .add 83 (ki 1)), qc 85 58 [82, 84]]) .skip)) (.s (.ops [q 87 (.binI .eql 54 (ku 11)), q 86 (.mv 87)]) (.cond 86 C57_74 (.ops [q 55 (.mv 6), q 56 (.mv 10), q 57 (.binI .add 56 (ki 1)), qc 58 58 [55, 57]]))))))))))))
def C57_24 : ACode := .s (.s (.ops [q 28 (.mv 9), q 29 (.mv 6), q 30 (.nilck 29), q 31 (.faddr 1 30), q 32 (.load1 31), q 33 (.len 32), q 34 (.binI .lss 28 33)]) (.cond 34 .skip (.exit 2))) (.s (.block 3 (.s (.ops [q 37 (.mv 6), q 38 (.nilck 37), q 39 (.faddr 1 38), q 40 (.load1 39), q 41 (.mv 9), q 42 (.iaddrL 1 40 41), q 43 (.load1 42), q 10 (.mv 43)]) (.s (.s (.ops [q 44 (.mv 0), q 45 (.mv 10), qf 46 44 [45], q 47 (.un .not 46)]) C57_37) (.s (.ops [q 48 (.faddr 2 1), q 49 (.load1 48), q 50 (.mv 10), q 51 (.iaddrL 9 49 50), q 52 (.loadN 9 51), q 11 (.alloc [(.int .u8 0), (.int .u64 0), (.int .u64 0), (.int .u64 0), (.int .u64 0), (.int .i64 0), (.int .i64 0), (.int .i64 0), (.int .i64 0)]), q0 (.store 9 11 52)]) C57_42)))) (.ops [q 35 (.mv 9), q 36 (.binI .add 35 (ki 1)), q 9 (.mv 36)]))
def C57_20 : ACode := .s (.ops [q 9 (.mv (ki 0))]) (.block 2 (.loop C57_24))
def C57_1 : ACode := .s (.ops [q 12 (.faddr 2 1), q 13 (.load1 12), q 14 (.len 13), q 15 (.mkslice 1 1 [(.bool false)] 14 14 true), q 16 (.build [.nils, .nils] [(0, (1, 15))]), q 17 (.box 2 16), q 6 (.mv 17)]) (.s (.s (.ops [q 18 (.load1 2), q 19 (.len 18), q 20 (.mv (ki 0))]) (.block 0 (.loop C57_8))) C57_20)
def R57 : List RA := []
theorem k57 : compF Try.prog (muL [15]) 57 = some ⟨96, C57_1, R57⟩ := by kernel_rfl
noncomputable abbrev X57 (K : AV → Store → Prop) : Cx := cK Try.prog noG 96 R57 (isK K) [15]
inductive St57 (σ : Type) where
 | p1 (t1_ : T34) (t3_ : Int) (t4_ : Str) (t18_ : Sl Int) (t19_ : Int) (t20_ : Int) (s_ : σ) (s : T92)
 | p2 (t1_ : T34) (t3_ : Int) (t4_ : Str) (k : Int) (s_ : σ) (s : T92)
noncomputable def G57 {σ : Type} (Y : Int → σ → Option (Bool × σ)) : St57 σ → Option σ | .p1 t1_ t3_ t4_ t18_ t19_ t20_ s_ s => (if (decide (t20_ < t19_)) = true then (ix (ls t18_) t20_ >>= fun v_6 => (F58 s v_6 >>= fun r_8 => (G57 Y (.p1 t1_ t3_ t4_ t18_ t19_ (IntKind.wrap .i64 (t20_ + 1)) s_ r_8.2)))) else (G57 Y (.p2 t1_ t3_ t4_ 0 s_ s))) | .p2 t1_ t3_ t4_ k s_ s => (if (decide (k < ((ls s.list).length : Int))) = true then (ix (ls s.list) k >>= fun v_13 => (Y v_13 s_ >>= fun r_15 => (if (!r_15.1) = true then (some r_15.2) else (ix (ls t1_.Code) v_13 >>= fun v_18 => (if (v_18.Kind == 1) = true then (G57 Y (.p2 t1_ t3_ t4_ (IntKind.wrap .i64 (k + 1)) r_15.2 s)) else (if (v_18.Kind == 12) = true then (G57 Y (.p2 t1_ t3_ t4_ (IntKind.wrap .i64 (k + 1)) r_15.2 s)) else (if (v_18.Kind == 2) = true then (F58 s (IntKind.wrap .i64 (v_13 + 1)) >>= fun r_24 => (F58 r_24.2 v_18.To >>= fun r_26 => (G57 Y (.p2 t1_ t3_ t4_ (IntKind.wrap .i64 (k + 1)) r_15.2 r_26.2)))) else (if (v_18.Kind == 3) = true then (F58 s v_18.To >>= fun r_29 => (G57 Y (.p2 t1_ t3_ t4_ (IntKind.wrap .i64 (k + 1)) r_15.2 r_29.2))) else (if (v_18.Kind == 10) = true then (if (t3_ == 0) = true then (F58 s (IntKind.wrap .i64 (v_13 + 1)) >>= fun r_33 => (G57 Y (.p2 t1_ t3_ t4_ (IntKind.wrap .i64 (k + 1)) r_15.2 r_33.2))) else (G57 Y (.p2 t1_ t3_ t4_ (IntKind.wrap .i64 (k + 1)) r_15.2 s))) else (if (v_18.Kind == 11) = true then (if (t3_ == ((t4_).length : Int)) = true then (F58 s (IntKind.wrap .i64 (v_13 + 1)) >>= fun r_37 => (G57 Y (.p2 t1_ t3_ t4_ (IntKind.wrap .i64 (k + 1)) r_15.2 r_37.2))) else (G57 Y (.p2 t1_ t3_ t4_ (IntKind.wrap .i64 (k + 1)) r_15.2 s))) else (F58 s (IntKind.wrap .i64 (v_13 + 1)) >>= fun r_39 => (G57 Y (.p2 t1_ t3_ t4_ (IntKind.wrap .i64 (k + 1)) r_15.2 r_39.2))))))))))))) else (some s_)) partial_fixpoint
def M57 {σ : Type} (H : σ → Asn) (iY0 : Nat) (x : St57 σ) (r : σ) : Prop := match x with | .p1 t1_ t3_ t4_ t18_ t19_ t20_ s_ s => ∀ (K : AV → Store → Prop) (Ls : List Asn), (∀ st, SH st (H r :: Ls) → K (AV.tup []) st) → ∀ (tm : Fr) (st : Store) (io1 : Nat), Frm tm [(0, .yld iY0), (1, .dptr (c34 t1_)), (3, .dptr (cI .i64 t3_)), (4, .dptr (cS t4_)), (6, .ptr io1 0), (18, slV 1 (AV.int .i64) t18_), (19, AV.int .i64 t19_), (20, AV.int .i64 t20_)] → SH st (H s_ :: bx92_0r1o io1 s :: Ls) → W (X57 K) [.lp C57_8, .blk 0, .code C57_20] tm st | .p2 t1_ t3_ t4_ k s_ s => ∀ (K : AV → Store → Prop) (Ls : List Asn), (∀ st, SH st (H r :: Ls) → K (AV.tup []) st) → ∀ (tm : Fr) (st : Store) (io1 : Nat), Frm tm [(0, .yld iY0), (1, .dptr (c34 t1_)), (3, .dptr (cI .i64 t3_)), (4, .dptr (cS t4_)), (6, .ptr io1 0), (9, AV.int .i64 k)] → SH st (H s_ :: bx92_0r1o io1 s :: Ls) → W (X57 K) [.lp C57_24, .blk 2] tm st
theorem w57 {σ : Type} {H : σ → Asn} {Y : Int → σ → Option (Bool × σ)} (iY0 : Nat) (hY : ∀ (x : Int) (s : σ) (r : Bool × σ), Y x s = some r → ∀ (K : AV → Store → Prop) (L : List Asn) (st : Store), SH st (H s :: L) → (∀ st, SH st (H r.2 :: L) → K (.bool r.1) st) → XYield Try.prog noG iY0 [AV.int .i64 x] st K) : ∀ (x : St57 σ) (r : σ), G57 Y x = some r → M57 H iY0 x r := by
 refine G57.partial_correctness Y (M57 H iY0) ?_
 intro g ih x r hF
 cases x with
 | p1 t1_ t3_ t4_ t18_ t19_ t20_ s_ s =>
  dsimp only at hF
  intro K Ls hK tm st io1 hf hs
  refine en hf ?_
  refine lp ?_
  refine rn 1 rfl ?_
  refine ci hF rfl (fun c_5 hF => ?_) (fun c_5 hF => ?_)
  · obtain ⟨v_6, g_7, hF⟩ := bind_some hF
    refine rn 0 rfl ?_
    refine W.o (e_iaddrL (rd_V rfl) rfl g_7) ?_
    refine W.o (l1D rfl rfl) ?_
    obtain ⟨r_8, g_9, hF⟩ := bind_some hF
    refine rn 3 rfl ?_
    refine cl (ale rfl) (d58 _ _ _ g_9 _ _ io1 (fun st hs => ?_) _ (hs.p 2 [1, 0] rfl))
    refine rn 2 rfl ?_
    exact ih _ _ hF K Ls hK _ _ io1 ⟨rfl, rfl, rfl, rfl, rfl, rfl, rfl, rfl, trivial⟩ (hs.p 2 [1, 0] rfl)
  refine rn 1 rfl ?_
  exact ih _ _ hF K Ls hK _ _ io1 ⟨rfl, rfl, rfl, rfl, rfl, rfl, trivial⟩ hs
 | p2 t1_ t3_ t4_ k s_ s =>
  dsimp only at hF
  intro K Ls hK tm st io1 hf hs
  refine en hf ?_
  refine lp ?_
  have hs := (hs.p 2 [1, 0] rfl)
  obtain ⟨j_10, j_11, hs⟩ := SH.bx2o hs
  refine rn 2 rfl ?_
  refine W.o (e_nilck rfl (hs.g 0 rfl)) ?_
  refine W.o (e_faddr rfl (hs.g 0 rfl)) ?_
  refine W.o (l1 rfl (hs.g 0 rfl) rfl) ?_
  refine W.o (e_len (rd_W (o := s.list) (id := j_11) rfl)) ?_
  refine rn 1 rfl ?_
  refine ci hF rfl (fun c_12 hF => ?_) (fun c_12 hF => ?_)
  · refine rn 1 rfl ?_
    refine W.o (e_nilck rfl (hs.g 0 rfl)) ?_
    refine W.o (e_faddr rfl (hs.g 0 rfl)) ?_
    refine W.o (l1 rfl (hs.g 0 rfl) rfl) ?_
    obtain ⟨v_13, g_14, hF⟩ := bind_some hF
    refine rn 1 rfl ?_
    refine W.o (e_iaddrL (rd_W (o := s.list) (id := j_11) rfl) rfl g_14) ?_
    refine W.o (l1D rfl rfl) ?_
    obtain ⟨r_15, g_16, hF⟩ := bind_some hF
    refine rn 3 rfl ?_
    refine cy rfl rfl (hY _ _ _ g_16 _ _ _ (hs.p 4 [3, 0, 0, 0] rfl) fun st hs => ?_)
    refine rn 1 rfl ?_
    refine ci hF rfl (fun c_17 hF => ?_) (fun c_17 hF => ?_)
    · cases hF
      exact rS rl0 (hK _ (hs.p 4 [0] rfl)) rfl
    refine rn 0 rfl ?_
    refine W.o (e_faddrD rfl) ?_
    refine W.o (l1D rfl (by first | rfl | (rw [slV_cells]; rfl))) ?_
    obtain ⟨v_18, g_19, hF⟩ := bind_some hF
    refine rn 1 rfl ?_
    refine W.o (e_iaddrL (rd_V rfl) rfl g_19) ?_
    refine W.o (lND (s := c52 v_18) rfl rfl rfl) ?_
    refine al hs (cs := c52 ({ Kind := 0, Set := (Arr.rep 4 (0 : Int)), To := 0, Group := 0, Last := 0, Slot := 0 } : T52)) rfl fun st b_20 hs => ?_
    refine sr hs 0 rfl rfl rfl (cs' := c52 v_18) rfl rfl fun st hs => ?_
    refine rn 0 rfl ?_
    refine W.o (e_faddr rfl (hs.g 0 rfl)) ?_
    refine W.o (l1 rfl (hs.g 0 rfl) rfl) ?_
    refine rn 2 rfl ?_
    refine ci hF rfl (fun c_21 hF => ?_) (fun c_21 hF => ?_)
    · refine rn 0 rfl ?_
      refine ct rfl c_21 ?_
      refine rn 3 rfl ?_
      have hs : SH st (bx92_0r1o io1 s :: _) := SH.bx2c j_10 j_11 (hs.p 5 [2, 2, 2, 0, 0] rfl)
      exact ih _ _ hF K Ls hK _ _ io1 ⟨rfl, rfl, rfl, rfl, rfl, rfl, trivial⟩ (hs.p 3 [2, 0] rfl)
    refine rn 2 rfl ?_
    refine ci hF rfl (fun c_22 hF => ?_) (fun c_22 hF => ?_)
    · refine rn 3 rfl ?_
      have hs : SH st (bx92_0r1o io1 s :: _) := SH.bx2c j_10 j_11 (hs.p 5 [2, 2, 2, 0, 0] rfl)
      exact ih _ _ hF K Ls hK _ _ io1 ⟨rfl, rfl, rfl, rfl, rfl, rfl, trivial⟩ (hs.p 3 [2, 0] rfl)
    refine rn 2 rfl ?_
    refine ci hF rfl (fun c_23 hF => ?_) (fun c_23 hF => ?_)
    · refine rn 3 rfl ?_
      have hs : SH st (bx92_0r1o io1 s :: _) := SH.bx2c j_10 j_11 (hs.p 5 [2, 2, 2, 0, 0] rfl)
      obtain ⟨r_24, g_25, hF⟩ := bind_some hF
      refine cl (ale rfl) (d58 _ _ _ g_25 _ _ io1 (fun st hs => ?_) _ hs)
      refine rn 1 rfl ?_
      refine W.o (e_faddr rfl (hs.g 1 rfl)) ?_
      refine W.o (l1 rfl (hs.g 1 rfl) rfl) ?_
      obtain ⟨r_26, g_27, hF⟩ := bind_some hF
      refine cl (ale rfl) (d58 _ _ _ g_27 _ _ io1 (fun st hs => ?_) _ hs)
      refine rn 3 rfl ?_
      exact ih _ _ hF K Ls hK _ _ io1 ⟨rfl, rfl, rfl, rfl, rfl, rfl, trivial⟩ (hs.p 3 [2, 0] rfl)
    refine rn 2 rfl ?_
    refine ci hF rfl (fun c_28 hF => ?_) (fun c_28 hF => ?_)
    · refine rn 1 rfl ?_
      refine W.o (e_faddr rfl (hs.g 0 rfl)) ?_
      refine W.o (l1 rfl (hs.g 0 rfl) rfl) ?_
      have hs : SH st (bx92_0r1o io1 s :: _) := SH.bx2c j_10 j_11 (hs.p 5 [2, 2, 2, 0, 0] rfl)
      obtain ⟨r_29, g_30, hF⟩ := bind_some hF
      refine cl (ale rfl) (d58 _ _ _ g_30 _ _ io1 (fun st hs => ?_) _ hs)
      refine rn 3 rfl ?_
      exact ih _ _ hF K Ls hK _ _ io1 ⟨rfl, rfl, rfl, rfl, rfl, rfl, trivial⟩ (hs.p 3 [2, 0] rfl)
    refine rn 2 rfl ?_
    refine ci hF rfl (fun c_31 hF => ?_) (fun c_31 hF => ?_)
    · refine rn 0 rfl ?_
      refine W.o (l1D rfl rfl) ?_
      refine rn 1 rfl ?_
      refine ci hF rfl (fun c_32 hF => ?_) (fun c_32 hF => ?_)
      · refine rn 3 rfl ?_
        have hs : SH st (bx92_0r1o io1 s :: _) := SH.bx2c j_10 j_11 (hs.p 5 [2, 2, 2, 0, 0] rfl)
        obtain ⟨r_33, g_34, hF⟩ := bind_some hF
        refine cl (ale rfl) (d58 _ _ _ g_34 _ _ io1 (fun st hs => ?_) _ hs)
        refine rn 3 rfl ?_
        exact ih _ _ hF K Ls hK _ _ io1 ⟨rfl, rfl, rfl, rfl, rfl, rfl, trivial⟩ (hs.p 3 [2, 0] rfl)
      refine rn 3 rfl ?_
      have hs : SH st (bx92_0r1o io1 s :: _) := SH.bx2c j_10 j_11 (hs.p 5 [2, 2, 2, 0, 0] rfl)
      exact ih _ _ hF K Ls hK _ _ io1 ⟨rfl, rfl, rfl, rfl, rfl, rfl, trivial⟩ (hs.p 3 [2, 0] rfl)
    refine rn 2 rfl ?_
    refine ci hF rfl (fun c_35 hF => ?_) (fun c_35 hF => ?_)
    · refine rn 0 rfl ?_
      refine W.o (l1D rfl rfl) ?_
      refine W.o (l1D rfl rfl) ?_
      refine rn 2 rfl ?_
      refine ci hF rfl (fun c_36 hF => ?_) (fun c_36 hF => ?_)
      · refine rn 3 rfl ?_
        have hs : SH st (bx92_0r1o io1 s :: _) := SH.bx2c j_10 j_11 (hs.p 5 [2, 2, 2, 0, 0] rfl)
        obtain ⟨r_37, g_38, hF⟩ := bind_some hF
        refine cl (ale rfl) (d58 _ _ _ g_38 _ _ io1 (fun st hs => ?_) _ hs)
        refine rn 3 rfl ?_
        exact ih _ _ hF K Ls hK _ _ io1 ⟨rfl, rfl, rfl, rfl, rfl, rfl, trivial⟩ (hs.p 3 [2, 0] rfl)
      refine rn 3 rfl ?_
      have hs : SH st (bx92_0r1o io1 s :: _) := SH.bx2c j_10 j_11 (hs.p 5 [2, 2, 2, 0, 0] rfl)
      exact ih _ _ hF K Ls hK _ _ io1 ⟨rfl, rfl, rfl, rfl, rfl, rfl, trivial⟩ (hs.p 3 [2, 0] rfl)
    refine rn 3 rfl ?_
    have hs : SH st (bx92_0r1o io1 s :: _) := SH.bx2c j_10 j_11 (hs.p 5 [2, 2, 2, 0, 0] rfl)
    obtain ⟨r_39, g_40, hF⟩ := bind_some hF
    refine cl (ale rfl) (d58 _ _ _ g_40 _ _ io1 (fun st hs => ?_) _ hs)
    refine rn 3 rfl ?_
    exact ih _ _ hF K Ls hK _ _ io1 ⟨rfl, rfl, rfl, rfl, rfl, rfl, trivial⟩ (hs.p 3 [2, 0] rfl)
  refine rn 0 rfl ?_
  cases hF
  exact eS rl0 (hK _ (hs.p 4 [3] rfl)) rfl
noncomputable def F57 {σ : Type} (Y : Int → σ → Option (Bool × σ)) (d0_ : T34) (d1_ : Sl Int) (d2_ : Int) (d3_ : Str) (s_ : σ) : Option σ := (if 0 ≤ ((ls d0_.Code).length : Int) ∧ ((ls d0_.Code).length : Int) = ((ls d0_.Code).length : Int) ∧ (1 : Int) * ((ls d0_.Code).length : Int) ≤ 281474976710656 then (G57 Y (.p1 d0_ d2_ d3_ d1_ ((ls d1_).length : Int) 0 s_ ({ in_ := (some (List.replicate (Int.toNat ((ls d0_.Code).length : Int)) (false : Bool))), list := (none : Sl Int) } : T92))) else none)
theorem d57 {σ : Type} {H : σ → Asn} {Y : Int → σ → Option (Bool × σ)} (iY0 : Nat) (hY : ∀ (x : Int) (s : σ) (r : Bool × σ), Y x s = some r → ∀ (K : AV → Store → Prop) (L : List Asn) (st : Store), SH st (H s :: L) → (∀ st, SH st (H r.2 :: L) → K (.bool r.1) st) → XYield Try.prog noG iY0 [AV.int .i64 x] st K) (d0_ : T34) (d1_ : Sl Int) (d2_ : Int) (d3_ : Str) (s_ : σ) (r : σ) (hF : F57 Y d0_ d1_ d2_ d3_ s_ = some r) : ∀ (K : AV → Store → Prop) (Ls : List Asn), (∀ st, SH st (H r :: Ls) → K (AV.tup []) st) → ∀ (st : Store), SH st (H s_ :: Ls) → XCall Try.prog noG 57 [.yld iY0, .dptr (c34 d0_), .dptr (cSl 1 (AV.int .i64) d1_), .dptr (cI .i64 d2_), .dptr (cS d3_)] st K := by
 unfold F57 at hF
 intro K Ls hK  st hs
 refine bS k57 rfl ?_
 refine rn 0 rfl ?_
 refine W.o (e_faddrD rfl) ?_
 refine W.o (l1D rfl (by first | rfl | (rw [slV_cells]; rfl))) ?_
 refine W.o (e_len (rd_V rfl)) ?_
 obtain ⟨g_2, hF⟩ := grd_some hF
 refine mkV (c := cB) (false : Bool) hs rfl rfl rfl g_2 fun st b_1 hs => ?_
 refine W.o (bR (cs := [rvV 1 (some (List.replicate (Int.toNat ((ls d0_.Code).length : Int)) (false : Bool))) b_1] ++ ((cSl 1 (AV.int .i64)) (({ in_ := (some (List.replicate (Int.toNat ((ls d0_.Code).length : Int)) (false : Bool))), list := none } : T92).list))) rfl rfl) ?_
 have hs := hs.ownNil Int
 refine bx hs (cs := [rvV 1 (some (List.replicate (Int.toNat ((ls d0_.Code).length : Int)) (false : Bool))) b_1] ++ ([ownV 1 (AV.int .i64) (none : Sl Int) 0])) rfl rfl fun st b_3 hs => ?_
 refine rn 1 rfl ?_
 refine W.o (l1D rfl (by first | rfl | (rw [slV_cells]; rfl))) ?_
 refine W.o (e_len (rd_V rfl)) ?_
 refine rn 1 rfl ?_
 have hs : SH st (bx92_0r1o b_3 ({ in_ := (some (List.replicate (Int.toNat ((ls d0_.Code).length : Int)) (false : Bool))), list := (none : Sl Int) } : T92) :: _) := SH.bx2c b_1 0 (hs.p 4 [0, 1, 0, 0] rfl)
 exact (w57 iY0 hY) (.p1 d0_ d2_ d3_ d1_ ((ls d1_).length : Int) 0 s_ ({ in_ := (some (List.replicate (Int.toNat ((ls d0_.Code).length : Int)) (false : Bool))), list := (none : Sl Int) } : T92)) _ hF K Ls hK _ _ b_3 ⟨rfl, rfl, rfl, rfl, rfl, rfl, rfl, rfl, trivial⟩ (hs.p 2 [1, 0] rfl)
def C33_27 : ACode := .ops [q 11 (.mv 25)]
def C33_28 : ACode := .block 3 (.s (.ops [q 26 (.faddr 2 3), q 27 (.load1 26), q 28 (.mv 11), q 29 (.iaddrL 9 27 28), q 30 (.loadN 9 29), q 12 (.alloc [(.int .u8 0), (.int .u64 0), (.int .u64 0), (.int .u64 0), (.int .u64 0), (.int .i64 0), (.int .i64 0), (.int .i64 0), (.int .i64 0)]), q0 (.store 9 12 30)]) (.block 4 (.s (.ops [q 32 (.faddr 0 12), q 33 (.load1 32), q 34 (.binI .eql 33 (ku 12)), q 31 (.mv 34)]) (.cond 31 (.ops [q 35 (.load1 7), q 36 (.load1 9), q 37 (.bslice 1 1 false [(.int .i64 0)] [(0, (1, 36))] false), q 38 (.appR 1 8 35 37), q0 (.store 1 7 38)]) (.s (.draw [] 0 0 [q 40 (.faddr 0 12), q 41 (.load1 40), q 42 (.binI .eql 41 (ku 1)), q 43 (.mv 42), (q 44 (.load1 9)).y 43, (q 45 (.load1 4)).y 43, (q 46 (.lenS 45)).y 43, (q 47 (.binI .lss 44 46)).y 43, q 48 (.pick 43 47 (.c (.bool false))), q 49 (.mv 48), (q 50 (.faddr 1 12)).y 49, (q 51 (.loadN 4 50)).y 49, (q 52 (.load1 4)).y 49, (q 53 (.load1 9)).y 49, (q 54 (.ixS 52 53)).y 49] [(qc 55 44 [51, 54]).y 49, q 56 (.pick 49 55 (.c (.bool false))), q 39 (.mv 56)]) (.cond 39 (.ops [q 57 (.load1 10), q 58 (.mv 11), q 59 (.binI .add 58 (ki 1)), q 60 (.bslice 1 1 false [(.int .i64 0)] [(0, (1, 59))] false), q 61 (.app 1 8 57 60), q0 (.store 1 10 61)]) .skip))))))
def C33_26 : ACode := .range 24 [25] C33_27 C33_28
def C33_41 : ACode := .ops [q 62 (.load1 10), q 8 (.mv 62)]
def C33_22 : ACode := .s (.s (.ops [q 20 (.loadN 3 3), q 21 (.load1 4), q 22 (.load1 9), q 23 (.mv 8), qc 24 43 [20, 21, 22, 23]]) (.block 2 C33_26)) C33_41
def C33_42 : ACode := .s (.s (.ops [q 63 (.load1 9)]) (.ops [q 9 (.alloc [(.int .i64 0)]), q0 (.store 1 9 63)])) (.ops [q 18 (.load1 9), q 19 (.binI .add 18 (ki 1)), q0 (.store 1 9 19)])
def C33_12 : ACode := .s (.s (.ops [q 15 (.mv 8), q 16 (.len 15), q 17 (.binI .gtr 16 (ki 0))]) (.cond 17 .skip (.exit 0))) (.s (.block 1 (.s (.ops [q 10 (.alloc [.nils])]) C33_22)) C33_42)
def C33_47 : ACode := .s (.ops [q 64 (.load1 7), q 6 (.mv 64)]) .ret
def C33_1 : ACode := .s (.ops [q 3 (.boxD 3 0), q 4 (.boxD 1 1), q 6 (.mv (.c .nils))]) (.s (.ops [q 7 (.alloc [.nils])]) (.s (.ops [q 13 (.bslice 1 1 false [(.int .i64 0)] [(0, (1, (ki 0)))] false), q 8 (.mv 13)]) (.s (.s (.ops [q 14 (.mv 2), q 9 (.alloc [(.int .i64 0)]), q0 (.store 1 9 14)]) (.block 0 (.loop C33_12))) C33_47)))
def R33 : List RA := [(.tmp 6)]
theorem k33 : compF Try.prog (muL [3, 4, 38]) 33 = some ⟨65, C33_1, R33⟩ := by kernel_rfl
noncomputable abbrev X33 (K : AV → Store → Prop) : Cx := cK Try.prog noG 65 R33 K [3, 4, 38]
noncomputable def B33_1 (p : T34) (s : Str) (t6_ : Sl Int) (now : Sl Int) (t24_ : T34) (t24_2 : Sl Int) (t24_3 : Int) (t24_4 : Str) (x : Int) (zz : (Sl Int) × Int × (Sl Int) × Nat) : Option (Bool × ((Sl Int) × Int × (Sl Int) × Nat)) := if zz.2.2.2 = 0 then (ix (ls p.Code) x >>= fun v_1 => (if (v_1.Kind == 12) = true then (if ((ls zz.1).length + (ls (some ([zz.2.1] : List Int))).length) * 8 ≤ 140737488355328 then (some (true, (sapp zz.1 (ls (some ([zz.2.1] : List Int))), zz.2.1, zz.2.2.1, 0))) else none) else (if (v_1.Kind == 1) = true then (if (decide (zz.2.1 < ((s).length : Int))) = true then (ix s zz.2.1 >>= fun b_11 => (F44 v_1.Set (b_11.toNat : Int) >>= fun r_13 => (if r_13 = true then (if ((ls zz.2.2.1).length + (ls (some ([IntKind.wrap .i64 (x + 1)] : List Int))).length) * 8 ≤ 140737488355328 then (some (true, (zz.1, zz.2.1, sapp zz.2.2.1 (ls (some ([IntKind.wrap .i64 (x + 1)] : List Int))), 0))) else none) else (some (true, (zz.1, zz.2.1, zz.2.2.1, 0)))))) else (some (true, (zz.1, zz.2.1, zz.2.2.1, 0)))) else (some (true, (zz.1, zz.2.1, zz.2.2.1, 0))))))
else none
theorem b33_1 (p : T34) (s : Str) (t6_ : Sl Int) (now : Sl Int) (t24_ : T34) (t24_2 : Sl Int) (t24_3 : Int) (t24_4 : Str) (x : Int) (zz : (Sl Int) × Int × (Sl Int) × Nat) (r : Bool × ((Sl Int) × Int × (Sl Int) × Nat)) (hF : B33_1 p s t6_ now t24_ t24_2 t24_3 t24_4 x zz = some r) (K : AV → Store → Prop) (Ls : List Asn) (iL : Nat) (ca cb : Code) (tm0 : Fr) (io0 : Nat) (io1 : Nat) (io2 : Nat) (q1 : compC Try.prog 65 (rnd (muL [3, 4, 38])) ca = some C33_27) (q2 : compC Try.prog 65 (rnd (muL [3, 4, 38])) cb = some C33_28) (hf : Frm tm0 [(3, .dptr (c34 p)), (4, .dptr (cS s)), (6, slV 1 (AV.int .i64) t6_), (7, .ptr io0 0), (8, slV 1 (AV.int .i64) now), (9, .ptr io1 0), (10, .ptr io2 0), (24, .fn 57 [.dptr (c34 t24_), .dptr (cSl 1 (AV.int .i64) t24_2), .dptr (cI .i64 t24_3), .dptr (cS t24_4)])]) (hK : ∀ st, SH st (bun [pt iL (.loop 65 [25] ca cb tm0 (lsW r.2.2.2.2) (ljW [] r.2.2.2.2)), bx42_r io0 r.2.1, pt io1 (.cells (cI .i64 r.2.2.1)), bx42_o io2 r.2.2.2.1] :: Ls) → K (.bool r.1) st) (st : Store) (hs : SH st (bun [pt iL (.loop 65 [25] ca cb tm0 (lsW zz.2.2.2) (ljW [] zz.2.2.2)), bx42_r io0 zz.1, pt io1 (.cells (cI .i64 zz.2.1)), bx42_o io2 zz.2.2.1] :: Ls)) : XYield Try.prog noG iL [AV.int .i64 x] st K := by
 unfold B33_1 at hF
 obtain ⟨c_, hF⟩ := grd_some hF
 replace hs : SH st ([pt iL (.loop 65 [25] ca cb tm0 (lsW zz.2.2.2) (ljW [] zz.2.2.2)), bx42_r io0 zz.1, pt io1 (.cells (cI .i64 zz.2.1)), bx42_o io2 zz.2.2.1] ++ Ls) := SH.unbun hs
 rw [c_] at hs
 replace hs : SH st (pt iL (.loop 65 [25] ca cb tm0 .ready none) :: bx42_r io0 zz.1 :: pt io1 (.cells (cI .i64 zz.2.1)) :: bx42_o io2 zz.2.2.1 :: Ls) := hs
 replace hK : (∀ st, SH st (pt iL (.loop 65 [25] ca cb tm0 (lsW r.2.2.2.2) (ljW [] r.2.2.2.2)) :: bx42_r io0 r.2.1 :: pt io1 (.cells (cI .i64 r.2.2.1)) :: bx42_o io2 r.2.2.2.1 :: Ls) → K (.bool r.1) st) := fun st hs => hK st (SH.bun hs)
 refine bR' (mu := [3, 4, 38]) q1 q2 hs rfl rfl (fun _ _ => trivial) ?_
 rw [putL1 hf]
 refine rn 1 rfl ?_
 refine rdW hs fun st hs => ?_
 refine rn 0 rfl ?_
 refine W.o (e_faddrD rfl) ?_
 refine W.o (l1D rfl (by first | rfl | (rw [slV_cells]; rfl))) ?_
 obtain ⟨v_1, g_2, hF⟩ := bind_some hF
 refine rn 1 rfl ?_
 refine W.o (e_iaddrL (rd_V rfl) rfl g_2) ?_
 refine W.o (lND (s := c52 v_1) rfl rfl rfl) ?_
 refine al hs (cs := c52 ({ Kind := 0, Set := (Arr.rep 4 (0 : Int)), To := 0, Group := 0, Last := 0, Slot := 0 } : T52)) rfl fun st b_3 hs => ?_
 refine sr hs 0 rfl rfl rfl (cs' := c52 v_1) rfl rfl fun st hs => ?_
 refine rn 0 rfl ?_
 refine W.o (e_faddr rfl (hs.g 0 rfl)) ?_
 refine W.o (l1 rfl (hs.g 0 rfl) rfl) ?_
 refine rn 2 rfl ?_
 refine ci hF rfl (fun c_4 hF => ?_) (fun c_4 hF => ?_)
 · have hs := (hs.p 5 [2, 0, 0, 0, 0] rfl)
   obtain ⟨j_5, hs⟩ := SH.bx1o hs
   refine rn 0 rfl ?_
   refine W.o (l1 rfl (hs.g 0 rfl) rfl) ?_
   refine W.o (l1 rfl (hs.g 4 rfl) rfl) ?_
   refine bs (f := AV.int .i64) ([zz.2.1] : List Int) hs rfl rfl rfl rfl fun st b_6 hs => ?_
   obtain ⟨g_7, hF⟩ := grd_some hF
   refine apV (f := AV.int .i64) (c := cI .i64) (ys := ls (some ([zz.2.1] : List Int))) hs 2 rfl rfl (ae_rd (rd_W (o := (some ([zz.2.1] : List Int))) (id := b_6) rfl)) g_7 (cI_len .i64) (fun _ => rfl) (fun _ => rfl) fun st b_8 hs => ?_
   refine so hs 1 rfl rfl rfl (rvV_c (es := 1) (o := sapp zz.1 (ls (some ([zz.2.1] : List Int)))) (id := b_8)) rfl (cs' := [rvV 1 (sapp zz.1 (ls (some ([zz.2.1] : List Int)))) b_8]) rfl rfl fun st hs => ?_
   refine rn 0 rfl ?_
   have hs : SH st (bx42_r io0 (sapp zz.1 (ls (some ([zz.2.1] : List Int)))) :: _) := SH.bx1c b_8 (hs.p 7 [1, 1, 0, 0, 0, 0, 0] rfl)
   cases hF
   exact rdN (hs.p 6 [3, 0, 2, 2] rfl) (fun st hs => hK st hs)
 refine rn 0 rfl ?_
 have h0 := hs
 refine dr0 ?_
 refine de rfl (e_faddr rfl (h0.g 0 rfl)) ?_
 refine de rfl (l1 rfl (h0.g 0 rfl) rfl) ?_
 refine dn 2 rfl ?_
 refine bi hF (fun c_9 hF => ?_) (fun c_9 hF => ?_)
 · refine dfx 43 rfl c_9 ?_
   refine don rfl rfl ?_
   refine de rfl (l1 rfl (h0.g 3 rfl) rfl) ?_
   refine don rfl rfl ?_
   refine de rfl (l1D rfl rfl) ?_
   refine dn 4 rfl ?_
   refine bi hF (fun c_10 hF => ?_) (fun c_10 hF => ?_)
   · refine dfx 49 rfl c_10 ?_
     refine don rfl rfl ?_
     refine de rfl (e_faddr rfl (h0.g 0 rfl)) ?_
     refine don rfl rfl ?_
     refine de rfl (lN (s := c24 v_1.Set) rfl (h0.g 0 rfl) rfl rfl) ?_
     refine don rfl rfl ?_
     refine de rfl (l1D rfl rfl) ?_
     refine don rfl rfl ?_
     refine de rfl (l1 rfl (h0.g 3 rfl) rfl) ?_
     obtain ⟨b_11, g_12, hF⟩ := bind_some hF
     refine don rfl rfl ?_
     refine de rfl (e_ixS rfl rfl g_12) ?_
     refine dz ?_
     obtain ⟨r_13, g_14, hF⟩ := bind_some hF
     refine W.on rfl rfl ?_
     refine df (d44 _ _ _ g_14) rfl ?_
     refine rn 2 rfl ?_
     refine ci hF rfl (fun c_15 hF => ?_) (fun c_15 hF => ?_)
     · have hs := (hs.p 5 [4, 0, 0, 0, 0] rfl)
       obtain ⟨j_16, hs⟩ := SH.bx1o hs
       refine rn 0 rfl ?_
       refine W.o (l1 rfl (hs.g 0 rfl) rfl) ?_
       refine rn 2 rfl ?_
       refine bs (f := AV.int .i64) ([IntKind.wrap .i64 (x + 1)] : List Int) hs rfl rfl rfl rfl fun st b_17 hs => ?_
       obtain ⟨g_18, hF⟩ := grd_some hF
       refine ap (ys := ls (some ([IntKind.wrap .i64 (x + 1)] : List Int))) hs 2 rfl rfl (ae_rd (rd_W (o := (some ([IntKind.wrap .i64 (x + 1)] : List Int))) (id := b_17) rfl)) g_18 (fun _ => rfl) fun st b_19 hs => ?_
       refine so hs 1 rfl rfl rfl ownV_c rfl (cs' := [ownV 1 (AV.int .i64) (sapp zz.2.2.1 (ls (some ([IntKind.wrap .i64 (x + 1)] : List Int)))) b_19]) rfl rfl fun st hs => ?_
       refine rn 0 rfl ?_
       have hs : SH st (bx42_o io2 (sapp zz.2.2.1 (ls (some ([IntKind.wrap .i64 (x + 1)] : List Int)))) :: _) := SH.bx1c b_19 (hs.p 7 [1, 1, 0, 0, 0, 0, 0] rfl)
       cases hF
       exact rdN (hs.p 6 [3, 3, 3, 0] rfl) (fun st hs => hK st hs)
     refine rn 0 rfl ?_
     cases hF
     exact rdN (hs.p 5 [1, 1, 1, 1] rfl) (fun st hs => hK st hs)
   refine dfx 49 rfl c_10 ?_
   refine dn 5 rfl ?_
   refine dz ?_
   refine rn 3 rfl ?_
   refine cf rfl rfl ?_
   refine rn 0 rfl ?_
   cases hF
   exact rdN (hs.p 5 [1, 1, 1, 1] rfl) (fun st hs => hK st hs)
 refine dfx 43 rfl c_9 ?_
 refine dn 11 rfl ?_
 refine dz ?_
 refine rn 3 rfl ?_
 refine cf rfl rfl ?_
 refine rn 0 rfl ?_
 cases hF
 exact rdN (hs.p 5 [1, 1, 1, 1] rfl) (fun st hs => hK st hs)
inductive St33 where
 | p1 (p : T34) (s : Str) (t6_ : Sl Int) (now : Sl Int) (out : Sl Int) (place : Int)
 | p2 (p : T34) (s : Str) (t6_ : Sl Int) (now : Sl Int) (t24_ : T34) (t24_2 : Sl Int) (t24_3 : Int) (t24_4 : Str) (out : Sl Int) (place : Int) (next : Sl Int)
noncomputable def G33 : St33 → Option (Sl Int) | .p1 p s t6_ now out place => (if (decide (((ls now).length : Int) > 0)) = true then (F43 p s place now >>= fun r_8 => (G33 (.p2 p s t6_ now r_8.1 r_8.2.1 r_8.2.2.1 r_8.2.2.2 out place (none : Sl Int)))) else (some out)) | .p2 p s t6_ now t24_ t24_2 t24_3 t24_4 out place next => (F57 (B33_1 p s t6_ now t24_ t24_2 t24_3 t24_4) t24_ t24_2 t24_3 t24_4 (out, place, next, 0) >>= fun r_11 => (if r_11.2.2.2 = 0 then (G33 (.p1 p s t6_ r_11.2.2.1 r_11.1 (IntKind.wrap .i64 (r_11.2.1 + 1)))) else none)) partial_fixpoint
def M33 (x : St33) (r : Sl Int) : Prop := match x with | .p1 p s t6_ now out place => ∀ (K : AV → Store → Prop) (Ls : List Asn), (∀ st id, SH st (rvA (cI .i64) id r :: Ls) → K (rvV 1 r id) st) → ∀ (tm : Fr) (st : Store) (io0 : Nat) (io1 : Nat), Frm tm [(3, .dptr (c34 p)), (4, .dptr (cS s)), (6, slV 1 (AV.int .i64) t6_), (7, .ptr io0 0), (8, slV 1 (AV.int .i64) now), (9, .ptr io1 0)] → SH st (bx42_r io0 out :: pt io1 (.cells (cI .i64 place)) :: Ls) → W (X33 K) [.lp C33_12, .blk 0, .code C33_47] tm st | .p2 p s t6_ now t24_ t24_2 t24_3 t24_4 out place next => ∀ (K : AV → Store → Prop) (Ls : List Asn), (∀ st id, SH st (rvA (cI .i64) id r :: Ls) → K (rvV 1 r id) st) → ∀ (tm : Fr) (st : Store) (io0 : Nat) (io1 : Nat) (io2 : Nat), Frm tm [(3, .dptr (c34 p)), (4, .dptr (cS s)), (6, slV 1 (AV.int .i64) t6_), (7, .ptr io0 0), (8, slV 1 (AV.int .i64) now), (9, .ptr io1 0), (10, .ptr io2 0), (24, .fn 57 [.dptr (c34 t24_), .dptr (cSl 1 (AV.int .i64) t24_2), .dptr (cI .i64 t24_3), .dptr (cS t24_4)])] → SH st (bx42_r io0 out :: pt io1 (.cells (cI .i64 place)) :: bx42_o io2 next :: Ls) → W (X33 K) [.code C33_26, .blk 2, .code C33_41, .blk 1, .code C33_42, .lp C33_12, .blk 0, .code C33_47] tm st
theorem w33 : ∀ (x : St33) (r : Sl Int), G33 x = some r → M33 x r := by
 refine G33.partial_correctness (M33) ?_
 intro g ih x r hF
 cases x with
 | p1 p s t6_ now out place =>
  dsimp only at hF
  intro K Ls hK tm st io0 io1 hf hs
  refine en hf ?_
  refine lp ?_
  refine rn 1 rfl ?_
  refine W.o (e_len (rd_V rfl)) ?_
  refine rn 1 rfl ?_
  refine ci hF rfl (fun c_5 hF => ?_) (fun c_5 hF => ?_)
  · have hs := hs.ownNil Int
    refine rn 0 rfl ?_
    refine al hs (cs := [ownV 1 (AV.int .i64) (none : Sl Int) 0]) rfl fun st b_6 hs => ?_
    refine rn 0 rfl ?_
    refine W.o (lND (s := c34 p) rfl rfl rfl) ?_
    refine W.o (l1D rfl rfl) ?_
    refine W.o (l1 rfl (hs.g 3 rfl) rfl) ?_
    obtain ⟨r_8, g_9, hF⟩ := bind_some hF
    refine rn 1 rfl ?_
    refine df (d43 _ _ _ _ _ g_9) rfl ?_
    refine rj 0 2 rfl ?_
    have hs : SH st (bx42_o b_6 (none : Sl Int) :: _) := SH.bx1c 0 (hs.p 4 [0, 0, 0, 0] rfl)
    exact ih _ _ hF K Ls hK _ _ io0 io1 b_6 ⟨rfl, rfl, rfl, rfl, rfl, rfl, rfl, rfl, trivial⟩ (hs.p 3 [1, 1, 0] rfl)
  obtain ⟨j_10, hs⟩ := SH.bx1o hs
  refine rn 0 rfl ?_
  refine W.o (l1 rfl (hs.g 0 rfl) rfl) ?_
  refine rn 1 rfl ?_
  cases hF
  exact rK (rlt rl0) (hK _ _ (hs.p 3 [1] rfl)) rfl
 | p2 p s t6_ now t24_ t24_2 t24_3 t24_4 out place next =>
  dsimp only at hF
  intro K Ls hK tm st io0 io1 io2 hf hs
  obtain ⟨r_11, g_12, hF⟩ := bind_some hF
  refine rg (N := 65) (fr := []) rfl hs hf.2.2.2.2.2.2.2.1 (by kernel_rfl) fun ca cb st iL q1 q2 hs => ?_
  refine d57 (σ := (Sl Int) × Int × (Sl Int) × Nat) (H := fun zz => bun [pt iL (.loop 65 [25] ca cb tm (lsW zz.2.2.2) (ljW [] zz.2.2.2)), bx42_r io0 zz.1, pt io1 (.cells (cI .i64 zz.2.1)), bx42_o io2 zz.2.2.1]) (Y := B33_1 p s t6_ now t24_ t24_2 t24_3 t24_4) iL (fun x zz r hB K L st hs hK => b33_1 p s t6_ now t24_ t24_2 t24_3 t24_4 x zz r hB K L iL ca cb tm io0 io1 io2 q1 q2 hf hK st hs) t24_ t24_2 t24_3 t24_4 (out, place, next, 0) _ g_12 _ _ (fun st hs => ?_) _ (SH.bun hs)
  replace hs : SH st ([pt iL (.loop 65 [25] ca cb tm (lsW r_11.2.2.2) (ljW [] r_11.2.2.2)), bx42_r io0 r_11.1, pt io1 (.cells (cI .i64 r_11.2.1)), bx42_o io2 r_11.2.2.1] ++ _) := SH.unbun hs
  refine ni hF (fun c_ hF => ?_) (fun c_ hF => ?_)
  · rw [c_] at hs
    refine rgN hs (by decide) fun st hs => ?_
    refine en hf ?_
    have hs := (hs.p 3 [2, 0, 0] rfl)
    obtain ⟨j_13, hs⟩ := SH.bx1o hs
    refine rn 0 rfl ?_
    refine W.o (l1 rfl (hs.g 0 rfl) rfl) ?_
    refine rn 1 rfl ?_
    refine W.o (l1 rfl (hs.g 3 rfl) rfl) ?_
    refine rn 0 rfl ?_
    refine al hs (cs := cI .i64 0) rfl fun st b_14 hs => ?_
    refine sr hs 0 rfl rfl rfl (cs' := cI .i64 r_11.2.1) rfl rfl fun st hs => ?_
    refine rn 0 rfl ?_
    refine W.o (l1 rfl (hs.g 0 rfl) rfl) ?_
    refine rn 1 rfl ?_
    refine sr hs 0 rfl rfl rfl (cs' := cI .i64 (IntKind.wrap .i64 (r_11.2.1 + 1))) rfl rfl fun st hs => ?_
    refine rn 0 rfl ?_
    have hs : SH st (bx42_o io2 r_11.2.2.1 :: _) := SH.bx1c j_13 (hs.p 5 [1, 1, 0, 0, 0] rfl)
    refine wkl (weak_strp (S := [8]) ⟨(dsw (es := 1) (f := AV.int .i64) (o := r_11.2.2.1) (id := j_13)).1, trivial⟩) ?_
    exact ih _ _ hF K Ls hK _ _ io0 b_14 ⟨rfl, rfl, rfl, rfl, (dsw (es := 1) (f := AV.int .i64) (o := r_11.2.2.1) (id := j_13)).2, rfl, trivial⟩ (hs.p 4 [2, 1] rfl)
  cases hF
noncomputable def F33 (p : T34) (s : Str) (from_ : Int) : Option (Sl Int) := (G33 (.p1 p s none (some ([0] : List Int)) (none : Sl Int) from_))
theorem d33 (p : T34) (s : Str) (from_ : Int) (r : Sl Int) (hF : F33 p s from_ = some r) : ∀ (K : AV → Store → Prop) (Ls : List Asn) (st : Store), SH st Ls → (∀ st id, SH st (rvA (cI .i64) id r :: Ls) → K (rvV 1 r id) st) → XCall Try.prog noG 33 [v34 p, AV.str s, AV.int .i64 from_] st K := by
 unfold F33 at hF
 intro K Ls st hs hK
 refine bK k33 rfl ?_
 refine rn 0 rfl ?_
 refine W.o (e_boxD (cs := c34 p) rfl rfl (c34_one _)) ?_
 refine W.o (e_boxD (cs := cS s) rfl rfl rfl) ?_
 have hs := hs.rvNil (α := Int) (cI .i64)
 refine rn 1 rfl ?_
 refine al hs (cs := [rvV 1 (none : Sl Int) 0]) rfl fun st b_1 hs => ?_
 refine rn 0 rfl ?_
 refine bs (f := AV.int .i64) ([0] : List Int) hs rfl rfl rfl rfl fun st b_3 hs => ?_
 refine rn 2 rfl ?_
 refine al hs (cs := cI .i64 0) rfl fun st b_4 hs => ?_
 refine sr hs 0 rfl rfl rfl (cs' := cI .i64 from_) rfl rfl fun st hs => ?_
 refine rn 0 rfl ?_
 have hs : SH st (bx42_r b_1 (none : Sl Int) :: _) := SH.bx1c 0 (hs.p 4 [2, 2, 0, 0] rfl)
 refine wkl (weak_strp (S := [8]) ⟨(dsw (es := 1) (f := AV.int .i64) (o := (some ([0] : List Int))) (id := b_3)).1, trivial⟩) ?_
 exact w33 (.p1 p s none (some ([0] : List Int)) (none : Sl Int) from_) _ hF K Ls hK _ _ b_1 b_4 ⟨rfl, rfl, rfl, rfl, (dsw (es := 1) (f := AV.int .i64) (o := (some ([0] : List Int))) (id := b_3)).2, rfl, trivial⟩ (hs.p 3 [0, 0] rfl)
def C56_1 : ACode := .s (.ops [q 1 (.boxD 9 0), q 2 (.mv (.c (.bool false)))]) (.s (.ops [q 3 (.faddr 0 1), q 4 (.load1 3), q 5 (.binI .eql 4 (ku 9)), q 2 (.mv 5)]) .ret)
def R56 : List RA := [(.tmp 2)]
theorem k56 : compF Try.prog (muL [1]) 56 = some ⟨6, C56_1, R56⟩ := by kernel_rfl
noncomputable def F56 (x_ : T52) : Option Bool := (some (x_.Kind == 9))
theorem d56 (x_ : T52) (r : Bool) (hF : F56 x_ = some r) : DFun Try.prog noG 56 [v52 x_] (AV.bool r) := by
 unfold F56 at hF
 refine bD k56 rfl ?_
 have hs : SH [] [] := SH.nil
 generalize ([] : Store) = st at hs ⊢
 refine rn 0 rfl ?_
 refine W.o (e_boxD (cs := c52 x_) rfl rfl rfl) ?_
 refine rn 1 rfl ?_
 refine W.o (e_faddrD rfl) ?_
 refine W.o (l1D rfl rfl) ?_
 refine rn 2 rfl ?_
 cases hF
 exact rD (rlt rl0) rfl
def C60_20 : ACode := .cond 16 (.s (.ops [q 17 (.mv 5), q 4 (.mv 17)]) .ret) .skip
def C60_8 : ACode := .s (.ops [q 9 (.binI .lss 8 7)]) (.s (.cond 9 .skip (.exit 0)) (.s (.block 1 (.s (.ops [q 10 (.mv 8), q 5 (.mv 10)]) (.s (.ops [q 11 (.mv 1), q 12 (.mv 0), q 13 (.mv 5), q 14 (.iaddrL 9 12 13), q 15 (.loadN 9 14), qf 16 11 [15]]) C60_20))) (.ops [q 18 (.binI .add 8 (ki 1)), q 8 (.mv 18)])))
def C60_26 : ACode := .s (.ops [q 4 (.mv (ki (-1)))]) .ret
def C60_1 : ACode := .s (.ops [q 4 (.mv (ki 0))]) (.s (.s (.ops [q 6 (.mv 0), q 7 (.len 6), q 8 (.mv (ki 0))]) (.block 0 (.loop C60_8))) C60_26)
def R60 : List RA := [(.tmp 4)]
theorem k60 : compF Try.prog (muL []) 60 = some ⟨19, C60_1, R60⟩ := by kernel_rfl
noncomputable abbrev X60 (r : Int) : Cx := cD Try.prog noG 19 R60 (AV.int .i64 r)
inductive St60 where
 | p1 (s : Sl T52) (t7_ : Int) (t8_ : Int)
noncomputable def G60 : St60 → Option Int | .p1 s t7_ t8_ => (if (decide (t8_ < t7_)) = true then (ix (ls s) t8_ >>= fun v_2 => (F56 v_2 >>= fun r_4 => (if r_4 = true then (some t8_) else (G60 (.p1 s t7_ (IntKind.wrap .i64 (t8_ + 1))))))) else (some (-1))) partial_fixpoint
def M60 (x : St60) (r : Int) : Prop := match x with | .p1 s t7_ t8_ => ∀ (tm : Fr) (st : Store), Frm tm [(0, slV 9 v52 s), (1, .fn 56 []), (7, AV.int .i64 t7_), (8, AV.int .i64 t8_)] → SH st [] → W (X60 r) [.lp C60_8, .blk 0, .code C60_26] tm st
theorem w60 : ∀ (x : St60) (r : Int), G60 x = some r → M60 x r := by
 refine G60.partial_correctness (M60) ?_
 intro g ih x r hF
 cases x with
 | p1 s t7_ t8_ =>
  dsimp only at hF
  intro tm st hf hs
  refine en hf ?_
  refine lp ?_
  refine rn 1 rfl ?_
  refine ci hF rfl (fun c_1 hF => ?_) (fun c_1 hF => ?_)
  · obtain ⟨v_2, g_3, hF⟩ := bind_some hF
    refine rn 5 rfl ?_
    refine W.o (e_iaddrL (rd_V rfl) rfl g_3) ?_
    refine W.o (lND (s := c52 v_2) rfl rfl rfl) ?_
    obtain ⟨r_4, g_5, hF⟩ := bind_some hF
    refine cvd rfl (by kernel_rfl) (d56 _ _ g_5) rfl ?_
    refine rn 0 rfl ?_
    refine ci hF rfl (fun c_6 hF => ?_) (fun c_6 hF => ?_)
    · refine rn 2 rfl ?_
      cases hF
      exact rD (rlt rl0) rfl
    refine rn 2 rfl ?_
    exact ih _ _ hF _ _ ⟨rfl, rfl, rfl, rfl, trivial⟩ hs
  refine rn 1 rfl ?_
  cases hF
  exact rD (rlt rl0) rfl
noncomputable def F60 (s : Sl T52) : Option Int := (G60 (.p1 s ((ls s).length : Int) 0))
theorem d60 (s : Sl T52) (r : Int) (hF : F60 s = some r) : DFun Try.prog noG 60 [slV 9 v52 s, .fn 56 []] (AV.int .i64 r) := by
 unfold F60 at hF
 refine bD k60 rfl ?_
 have hs : SH [] [] := SH.nil
 generalize ([] : Store) = st at hs ⊢
 refine rn 2 rfl ?_
 refine W.o (e_len (rd_V rfl)) ?_
 refine rn 1 rfl ?_
 exact w60 (.p1 s ((ls s).length : Int) 0) _ hF _ _ ⟨rfl, rfl, rfl, rfl, trivial⟩ hs
end Go.Proofs.Ytjbafmnocopofaa
end
section
set_option maxRecDepth 4000
set_option maxHeartbeats 4000000
namespace Go.Proofs.Ytjbafmnocopofaa
open Go AW
attribute [local irreducible] W WD SH XS XLoop DFun XCall XYield
def C55_1 : ACode := .s (.ops [q 4 (.mv (.c (.bool false)))]) (.s (.ops [q 5 (.mv 0), q 6 (.mv 1), qc 7 60 [5, 6], q 8 (.binI .geq 7 (ki 0)), q 4 (.mv 8)]) .ret)
def R55 : List RA := [(.tmp 4)]
theorem k55 : compF Try.prog (muL []) 55 = some ⟨9, C55_1, R55⟩ := by kernel_rfl
noncomputable def F55 (s : Sl T52) : Option Bool := (F60 s >>= fun r_1 => (some (decide (r_1 ≥ 0))))
theorem d55 (s : Sl T52) (r : Bool) (hF : F55 s = some r) : DFun Try.prog noG 55 [slV 9 v52 s, .fn 56 []] (AV.bool r) := by
 unfold F55 at hF
 refine bD k55 rfl ?_
 have hs : SH [] [] := SH.nil
 generalize ([] : Store) = st at hs ⊢
 obtain ⟨r_1, g_2, hF⟩ := bind_some hF
 refine rn 3 rfl ?_
 refine df (d60 s _ g_2) rfl ?_
 refine rn 2 rfl ?_
 cases hF
 exact rD (rlt rl0) rfl
def C42_1 : ACode := .s (.ops [q 1 (.boxD 3 0), q 2 (.mv (.c (.bool false)))]) (.s (.ops [q 3 (.faddr 2 1), q 4 (.load1 3), qc 5 55 [4, (.c (.fn 56 []))], q 2 (.mv 5)]) .ret)
def R42 : List RA := [(.tmp 2)]
theorem k42 : compF Try.prog (muL [1]) 42 = some ⟨6, C42_1, R42⟩ := by kernel_rfl
noncomputable def F42 (p : T34) : Option Bool := (F55 p.Code >>= fun r_1 => (some r_1))
theorem d42 (p : T34) (r : Bool) (hF : F42 p = some r) : DFun Try.prog noG 42 [v34 p] (AV.bool r) := by
 unfold F42 at hF
 refine bD k42 rfl ?_
 have hs : SH [] [] := SH.nil
 generalize ([] : Store) = st at hs ⊢
 refine rn 0 rfl ?_
 refine W.o (e_boxD (cs := c34 p) rfl rfl (c34_one _)) ?_
 refine rn 1 rfl ?_
 refine W.o (e_faddrD rfl) ?_
 refine W.o (l1D rfl (by first | rfl | (rw [slV_cells]; rfl))) ?_
 obtain ⟨r_1, g_2, hF⟩ := bind_some hF
 refine df (d55 _ _ g_2) rfl ?_
 refine rn 1 rfl ?_
 cases hF
 exact rD (rlt rl0) rfl
def O11_7o1 : List AOp := (q 35 (.binI .gtr 34 (ki 16384))).n 33 :: q 36 (.pick 33 (.c (.bool true)) 35) :: []
def O11_7o0 : List AOp := q 11 (.faddr 0 1) :: q 12 (.load1 11) :: q 13 (.binI .lss 12 (ki 0)) :: q 14 (.mv 13) :: (q 15 (.faddr 0 1)).n 14 :: (q 16 (.load1 15)).n 14 :: (q 17 (.binI .gtr 16 (ki 99))).n 14 :: q 18 (.pick 14 (.c (.bool true)) 17) :: q 19 (.mv 18) :: (q 20 (.faddr 1 1)).n 19 :: (q 21 (.load1 20)).n 19 :: (q 22 (.binI .lss 21 (ki 0))).n 19 :: q 23 (.pick 19 (.c (.bool true)) 22) :: q 24 (.mv 23) :: (q 25 (.faddr 1 1)).n 24 :: (q 26 (.load1 25)).n 24 :: (q 27 (.binI .gtr 26 (ki 16384))).n 24 :: q 28 (.pick 24 (.c (.bool true)) 27) :: q 29 (.mv 28) :: (q 30 (.mv 3)).n 29 :: (q 31 (.binI .lss 30 (ki 1))).n 29 :: q 32 (.pick 29 (.c (.bool true)) 31) :: q 33 (.mv 32) :: (q 34 (.mv 3)).n 33 :: O11_7o1
def C11_47 : ACode := .s (.ops [q 58 (.faddr 5 5), q 59 (.load1 58), q 60 (.faddr 5 6), q0 (.store 1 60 59)]) (.ops [q 61 (.faddr 5 5), q 62 (.load1 61), q 63 (.binI .geq 62 (ki 0)), q 64 (.mv 63), (q 65 (.faddr 5 5)).y 64, (q 66 (.load1 65)).y 64, (q 67 (.mv 3)).y 64, (q 68 (.binI .lss 66 67)).y 64, q 69 (.pick 64 68 (.c (.bool false))), q 7 (.mv 69)])
def C11_53 : ACode := .cond 70 .skip (.s (.ops [q 72 (.binI .eql 49 (ku 5)), q 70 (.mv 72)]) (.cond 70 .skip (.ops [q 73 (.binI .eql 49 (ku 9)), q 70 (.mv 73)])))
def C11_61 : ACode := .s (.ops [q 74 (.faddr 6 5), q 75 (.load1 74), q 76 (.faddr 6 6), q0 (.store 1 76 75)]) (.ops [q 77 (.faddr 6 5), q 78 (.load1 77), q 79 (.binI .geq 78 (ki 1)), q 80 (.mv 79), (q 81 (.faddr 6 5)).y 80, (q 82 (.load1 81)).y 80, (q 83 (.faddr 0 1)).y 80, (q 84 (.load1 83)).y 80, (q 85 (.binI .leq 82 84)).y 80, q 86 (.pick 80 85 (.c (.bool false))), q 7 (.mv 86)])
def O11_69o1 : List AOp := q 7 (.mv 118) :: []
def O11_69o0 : List AOp := q 95 (.faddr 6 5) :: q 96 (.load1 95) :: q 97 (.binI .geq 96 (ki 1)) :: q 98 (.mv 97) :: (q 99 (.faddr 6 5)).y 98 :: (q 100 (.load1 99)).y 98 :: (q 101 (.faddr 0 1)).y 98 :: (q 102 (.load1 101)).y 98 :: (q 103 (.binI .leq 100 102)).y 98 :: q 104 (.pick 98 103 (.c (.bool false))) :: q 105 (.mv 104) :: (q 106 (.faddr 7 5)).y 105 :: (q 107 (.load1 106)).y 105 :: (q 108 (.faddr 6 5)).y 105 :: (q 109 (.load1 108)).y 105 :: (q 110 (.binI .geq 107 109)).y 105 :: q 111 (.pick 105 110 (.c (.bool false))) :: q 112 (.mv 111) :: (q 113 (.faddr 7 5)).y 112 :: (q 114 (.load1 113)).y 112 :: (q 115 (.faddr 0 1)).y 112 :: (q 116 (.load1 115)).y 112 :: (q 117 (.binI .leq 114 116)).y 112 :: q 118 (.pick 112 117 (.c (.bool false))) :: O11_69o1
def C11_77 : ACode := .s (.ops [q 122 (.faddr 8 5), q 123 (.load1 122), q 124 (.faddr 8 6), q0 (.store 1 124 123)]) (.ops [q 125 (.faddr 8 5), q 126 (.load1 125), q 127 (.binI .geq 126 (ki 0)), q 128 (.mv 127), (q 129 (.faddr 8 5)).y 128, (q 130 (.load1 129)).y 128, (q 131 (.faddr 1 1)).y 128, (q 132 (.load1 131)).y 128, (q 133 (.binI .lss 130 132)).y 128, q 134 (.pick 128 133 (.c (.bool false))), q 7 (.mv 134)])
def C11_64 : ACode := .s (.ops [q 88 (.binI .eql 49 (ku 6)), q 87 (.mv 88)]) (.cond 87 (.s (.draw [6] 0 0 [q 89 (.faddr 6 5), q 90 (.load1 89), q 91 (.faddr 7 5), q 92 (.load1 91), q 93 (.faddr 6 6), q0 (.store 1 93 90), q 94 (.faddr 7 6), q0 (.store 1 94 92)] []) (.ops O11_69o0)) (.s (.s (.ops [q 120 (.binI .eql 49 (ku 7)), q 119 (.mv 120)]) (.cond 119 .skip (.ops [q 121 (.binI .eql 49 (ku 8)), q 119 (.mv 121)]))) (.cond 119 C11_77 (.s (.s (.ops [q 136 (.binI .eql 49 (ku 10)), q 135 (.mv 136)]) (.cond 135 .skip (.s (.ops [q 137 (.binI .eql 49 (ku 11)), q 135 (.mv 137)]) (.cond 135 .skip (.ops [q 138 (.binI .eql 49 (ku 12)), q 135 (.mv 138)]))))) (.cond 135 .skip (.s (.ops [q 2 (.mv (.c (.bool false)))]) .ret))))))
def C11_95 : ACode := .s (.ops [q 139 (.mv 7), q 140 (.un .not 139), q 141 (.mv 140), (q 142 (.loadN 9 6)).n 141, (q 143 (.loadN 9 5)).n 141, (q 144 (.eqA true [.i, .i, .i, .i, .i, .i, .i, .i, .i] 142 143)).n 141, q 145 (.pick 141 (.c (.bool true)) 144), q 146 (.mv 145), (q 147 (.faddr 0 5)).n 146, (q 148 (.load1 147)).n 146, (q 149 (.binI .eql 148 (ku 12))).n 146, (q 150 (.mv 4)).n 146, (q 151 (.mv 3)).n 146, (q 152 (.binI .sub 151 (ki 1))).n 146, (q 153 (.binI .eql 150 152)).n 146, (q 154 (.eqB true 149 153)).n 146, q 155 (.pick 146 (.c (.bool true)) 154)]) (.cond 155 (.s (.ops [q 2 (.mv (.c (.bool false)))]) .ret) .skip)
def C11_26 : ACode := .s (.ops [q 42 (.mv 40), q 43 (.iaddrL 9 38 40), q 44 (.loadN 9 43), q 5 (.alloc [(.int .u8 0), (.int .u64 0), (.int .u64 0), (.int .u64 0), (.int .u64 0), (.int .i64 0), (.int .i64 0), (.int .i64 0), (.int .i64 0)]), q 4 (.mv 42), q0 (.store 9 5 44)]) (.s (.ops [q 45 (.faddr 0 5), q 46 (.load1 45), q 47 (.build [(.int .u8 0), (.int .u64 0), (.int .u64 0), (.int .u64 0), (.int .u64 0), (.int .i64 0), (.int .i64 0), (.int .i64 0), (.int .i64 0)] [(0, (1, 46))]), q 6 (.alloc [(.int .u8 0), (.int .u64 0), (.int .u64 0), (.int .u64 0), (.int .u64 0), (.int .i64 0), (.int .i64 0), (.int .i64 0), (.int .i64 0)]), q0 (.store 9 6 47)]) (.s (.ops [q 7 (.mv (.c (.bool true)))]) (.s (.s (.ops [q 48 (.faddr 0 5), q 49 (.load1 48)]) (.block 2 (.s (.ops [q 51 (.binI .eql 49 (ku 1)), q 50 (.mv 51)]) (.cond 50 (.ops [q 52 (.faddr 1 5), q 53 (.loadN 4 52), q 54 (.faddr 1 6), q0 (.store 4 54 53)]) (.s (.s (.ops [q 56 (.binI .eql 49 (ku 2)), q 55 (.mv 56)]) (.cond 55 .skip (.ops [q 57 (.binI .eql 49 (ku 3)), q 55 (.mv 57)]))) (.cond 55 C11_47 (.s (.s (.ops [q 71 (.binI .eql 49 (ku 4)), q 70 (.mv 71)]) C11_53) (.cond 70 C11_61 C11_64)))))))) C11_95)))
def C11_102 : ACode := .ops [q 156 (.binI .add 40 (ki 1)), q 40 (.mv 156)]
def C11_18 : ACode := .s (.ops [q 41 (.binI .lss 40 39)]) (.s (.cond 41 .skip (.exit 0)) (.s (.block 1 C11_26) C11_102))
def C11_103 : ACode := .s (.ops [q 2 (.mv (.c (.bool true)))]) .ret
def C11_1 : ACode := .s (.ops [q 1 (.boxD 3 0), q 2 (.mv (.c (.bool false)))]) (.s (.ops [q 8 (.faddr 2 1), q 9 (.load1 8), q 10 (.len 9), q 3 (.mv 10)]) (.s (.s (.ops O11_7o0) (.cond 36 (.s (.ops [q 2 (.mv (.c (.bool false)))]) .ret) .skip)) (.s (.s (.ops [q 37 (.faddr 2 1), q 38 (.load1 37), q 39 (.len 38), q 40 (.mv (ki 0))]) (.block 0 (.loop C11_18))) C11_103)))
def R11 : List RA := [(.tmp 2)]
theorem k11 : compF Try.prog (muL [1]) 11 = some ⟨157, C11_1, R11⟩ := by kernel_rfl
noncomputable abbrev X11 (r : Bool) : Cx := cD Try.prog noG 157 R11 (AV.bool r) [1]
inductive St11 where
 | p1 (p : T34) (n : Int) (t38_ : Sl T52) (t39_ : Int) (t40_ : Int)
 | p2 (p : T34) (n : Int) (i : Int) (ok : Bool) (t38_ : Sl T52) (t39_ : Int) (t40_ : Int) (x_ : T52) (plain : T52)
 | p3 (p : T34) (n : Int) (i : Int) (t38_ : Sl T52) (t39_ : Int) (t40_ : Int) (x_ : T52) (plain : T52)
 | p4 (p : T34) (n : Int) (i : Int) (t38_ : Sl T52) (t39_ : Int) (t40_ : Int) (x_ : T52) (plain : T52)
 | p5 (p : T34) (n : Int) (i : Int) (t38_ : Sl T52) (t39_ : Int) (t40_ : Int) (x_ : T52) (plain : T52)
noncomputable def G11 : St11 → Option Bool | .p1 p n t38_ t39_ t40_ => (if (decide (t40_ < t39_)) = true then (ix (ls t38_) t40_ >>= fun v_8 => (if (v_8.Kind == 1) = true then (G11 (.p2 p n t40_ true t38_ t39_ t40_ v_8 ({ Kind := v_8.Kind, Set := v_8.Set, To := 0, Group := 0, Last := 0, Slot := 0 } : T52))) else (if (v_8.Kind == 2) = true then (G11 (.p3 p n t40_ t38_ t39_ t40_ v_8 ({ Kind := v_8.Kind, Set := (Arr.rep 4 (0 : Int)), To := 0, Group := 0, Last := 0, Slot := 0 } : T52))) else (if (v_8.Kind == 3) = true then (G11 (.p3 p n t40_ t38_ t39_ t40_ v_8 ({ Kind := v_8.Kind, Set := (Arr.rep 4 (0 : Int)), To := 0, Group := 0, Last := 0, Slot := 0 } : T52))) else (if (v_8.Kind == 4) = true then (G11 (.p4 p n t40_ t38_ t39_ t40_ v_8 ({ Kind := v_8.Kind, Set := (Arr.rep 4 (0 : Int)), To := 0, Group := 0, Last := 0, Slot := 0 } : T52))) else (if (v_8.Kind == 5) = true then (G11 (.p4 p n t40_ t38_ t39_ t40_ v_8 ({ Kind := v_8.Kind, Set := (Arr.rep 4 (0 : Int)), To := 0, Group := 0, Last := 0, Slot := 0 } : T52))) else (if (v_8.Kind == 9) = true then (G11 (.p4 p n t40_ t38_ t39_ t40_ v_8 ({ Kind := v_8.Kind, Set := (Arr.rep 4 (0 : Int)), To := 0, Group := 0, Last := 0, Slot := 0 } : T52))) else (if (v_8.Kind == 6) = true then (if (decide (v_8.Group ≥ 1)) = true then (if (decide (v_8.Group ≤ p.Groups)) = true then (if (decide (v_8.Last ≥ v_8.Group)) = true then (G11 (.p2 p n t40_ (decide (v_8.Last ≤ p.Groups)) t38_ t39_ t40_ v_8 ({ Kind := v_8.Kind, Set := (Arr.rep 4 (0 : Int)), To := 0, Group := v_8.Group, Last := v_8.Last, Slot := 0 } : T52))) else (G11 (.p2 p n t40_ false t38_ t39_ t40_ v_8 ({ Kind := v_8.Kind, Set := (Arr.rep 4 (0 : Int)), To := 0, Group := v_8.Group, Last := v_8.Last, Slot := 0 } : T52)))) else (G11 (.p2 p n t40_ false t38_ t39_ t40_ v_8 ({ Kind := v_8.Kind, Set := (Arr.rep 4 (0 : Int)), To := 0, Group := v_8.Group, Last := v_8.Last, Slot := 0 } : T52)))) else (G11 (.p2 p n t40_ false t38_ t39_ t40_ v_8 ({ Kind := v_8.Kind, Set := (Arr.rep 4 (0 : Int)), To := 0, Group := v_8.Group, Last := v_8.Last, Slot := 0 } : T52)))) else (if (v_8.Kind == 7) = true then (G11 (.p5 p n t40_ t38_ t39_ t40_ v_8 ({ Kind := v_8.Kind, Set := (Arr.rep 4 (0 : Int)), To := 0, Group := 0, Last := 0, Slot := 0 } : T52))) else (if (v_8.Kind == 8) = true then (G11 (.p5 p n t40_ t38_ t39_ t40_ v_8 ({ Kind := v_8.Kind, Set := (Arr.rep 4 (0 : Int)), To := 0, Group := 0, Last := 0, Slot := 0 } : T52))) else (if (v_8.Kind == 10) = true then (G11 (.p2 p n t40_ true t38_ t39_ t40_ v_8 ({ Kind := v_8.Kind, Set := (Arr.rep 4 (0 : Int)), To := 0, Group := 0, Last := 0, Slot := 0 } : T52))) else (if (v_8.Kind == 11) = true then (G11 (.p2 p n t40_ true t38_ t39_ t40_ v_8 ({ Kind := v_8.Kind, Set := (Arr.rep 4 (0 : Int)), To := 0, Group := 0, Last := 0, Slot := 0 } : T52))) else (if (v_8.Kind == 12) = true then (G11 (.p2 p n t40_ true t38_ t39_ t40_ v_8 ({ Kind := v_8.Kind, Set := (Arr.rep 4 (0 : Int)), To := 0, Group := 0, Last := 0, Slot := 0 } : T52))) else (some false)))))))))))))) else (some true)) | .p2 p n i ok t38_ t39_ t40_ x_ plain => (if (!ok) = true then (some false) else (if (!decide (plain = x_)) = true then (some false) else (if (!((x_.Kind == 12) == (i == (IntKind.wrap .i64 (n - 1))))) = true then (some false) else (G11 (.p1 p n t38_ t39_ (IntKind.wrap .i64 (t40_ + 1))))))) | .p3 p n i t38_ t39_ t40_ x_ plain => (if (decide (x_.To ≥ 0)) = true then (G11 (.p2 p n i (decide (x_.To < n)) t38_ t39_ t40_ x_ ({ plain with To := x_.To } : T52))) else (G11 (.p2 p n i false t38_ t39_ t40_ x_ ({ plain with To := x_.To } : T52)))) | .p4 p n i t38_ t39_ t40_ x_ plain => (if (decide (x_.Group ≥ 1)) = true then (G11 (.p2 p n i (decide (x_.Group ≤ p.Groups)) t38_ t39_ t40_ x_ ({ plain with Group := x_.Group } : T52))) else (G11 (.p2 p n i false t38_ t39_ t40_ x_ ({ plain with Group := x_.Group } : T52)))) | .p5 p n i t38_ t39_ t40_ x_ plain => (if (decide (x_.Slot ≥ 0)) = true then (G11 (.p2 p n i (decide (x_.Slot < p.Slots)) t38_ t39_ t40_ x_ ({ plain with Slot := x_.Slot } : T52))) else (G11 (.p2 p n i false t38_ t39_ t40_ x_ ({ plain with Slot := x_.Slot } : T52)))) partial_fixpoint
def M11 (x : St11) (r : Bool) : Prop := match x with | .p1 p n t38_ t39_ t40_ => ∀ (tm : Fr) (st : Store), Frm tm [(1, .dptr (c34 p)), (3, AV.int .i64 n), (38, slV 9 v52 t38_), (39, AV.int .i64 t39_), (40, AV.int .i64 t40_)] → SH st [] → W (X11 r) [.lp C11_18, .blk 0, .code C11_103] tm st | .p2 p n i ok t38_ t39_ t40_ x_ plain => ∀ (tm : Fr) (st : Store) (io0 : Nat) (io1 : Nat), Frm tm [(1, .dptr (c34 p)), (3, AV.int .i64 n), (4, AV.int .i64 i), (5, .ptr io0 0), (6, .ptr io1 0), (7, AV.bool ok), (38, slV 9 v52 t38_), (39, AV.int .i64 t39_), (40, AV.int .i64 t40_)] → SH st [pt io0 (.cells (c52 x_)), pt io1 (.cells (c52 plain))] → W (X11 r) [.code C11_95, .blk 1, .code C11_102, .lp C11_18, .blk 0, .code C11_103] tm st | .p3 p n i t38_ t39_ t40_ x_ plain => ∀ (tm : Fr) (st : Store) (io0 : Nat) (io1 : Nat), Frm tm [(1, .dptr (c34 p)), (3, AV.int .i64 n), (4, AV.int .i64 i), (5, .ptr io0 0), (6, .ptr io1 0), (38, slV 9 v52 t38_), (39, AV.int .i64 t39_), (40, AV.int .i64 t40_)] → SH st [pt io0 (.cells (c52 x_)), pt io1 (.cells (c52 plain))] → W (X11 r) [.code C11_47, .blk 2, .code C11_95, .blk 1, .code C11_102, .lp C11_18, .blk 0, .code C11_103] tm st | .p4 p n i t38_ t39_ t40_ x_ plain => ∀ (tm : Fr) (st : Store) (io0 : Nat) (io1 : Nat), Frm tm [(1, .dptr (c34 p)), (3, AV.int .i64 n), (4, AV.int .i64 i), (5, .ptr io0 0), (6, .ptr io1 0), (38, slV 9 v52 t38_), (39, AV.int .i64 t39_), (40, AV.int .i64 t40_)] → SH st [pt io0 (.cells (c52 x_)), pt io1 (.cells (c52 plain))] → W (X11 r) [.code C11_61, .blk 2, .code C11_95, .blk 1, .code C11_102, .lp C11_18, .blk 0, .code C11_103] tm st | .p5 p n i t38_ t39_ t40_ x_ plain => ∀ (tm : Fr) (st : Store) (io0 : Nat) (io1 : Nat), Frm tm [(1, .dptr (c34 p)), (3, AV.int .i64 n), (4, AV.int .i64 i), (5, .ptr io0 0), (6, .ptr io1 0), (38, slV 9 v52 t38_), (39, AV.int .i64 t39_), (40, AV.int .i64 t40_)] → SH st [pt io0 (.cells (c52 x_)), pt io1 (.cells (c52 plain))] → W (X11 r) [.code C11_77, .blk 2, .code C11_95, .blk 1, .code C11_102, .lp C11_18, .blk 0, .code C11_103] tm st
theorem w11 : ∀ (x : St11) (r : Bool), G11 x = some r → M11 x r := by
 refine G11.partial_correctness (M11) ?_
 intro g ih x r hF
 cases x with
 | p1 p n t38_ t39_ t40_ =>
  dsimp only at hF
  intro tm st hf hs
  refine en hf ?_
  refine lp ?_
  refine rn 1 rfl ?_
  refine ci hF rfl (fun c_7 hF => ?_) (fun c_7 hF => ?_)
  · obtain ⟨v_8, g_9, hF⟩ := bind_some hF
    refine rn 1 rfl ?_
    refine W.o (e_iaddrL (rd_V rfl) rfl g_9) ?_
    refine W.o (lND (s := c52 v_8) rfl rfl rfl) ?_
    refine al hs (cs := c52 ({ Kind := 0, Set := (Arr.rep 4 (0 : Int)), To := 0, Group := 0, Last := 0, Slot := 0 } : T52)) rfl fun st b_10 hs => ?_
    refine rn 1 rfl ?_
    refine sr hs 0 rfl rfl rfl (cs' := c52 v_8) rfl rfl fun st hs => ?_
    refine rn 0 rfl ?_
    refine W.o (e_faddr rfl (hs.g 0 rfl)) ?_
    refine W.o (l1 rfl (hs.g 0 rfl) rfl) ?_
    refine W.o (bR (cs := c52 ({ Kind := v_8.Kind, Set := (Arr.rep 4 (0 : Int)), To := 0, Group := 0, Last := 0, Slot := 0 } : T52)) rfl rfl) ?_
    refine al hs (cs := c52 ({ Kind := 0, Set := (Arr.rep 4 (0 : Int)), To := 0, Group := 0, Last := 0, Slot := 0 } : T52)) rfl fun st b_11 hs => ?_
    refine sr hs 0 rfl rfl rfl (cs' := c52 ({ Kind := v_8.Kind, Set := (Arr.rep 4 (0 : Int)), To := 0, Group := 0, Last := 0, Slot := 0 } : T52)) rfl rfl fun st hs => ?_
    refine rn 1 rfl ?_
    refine W.o (e_faddr rfl (hs.g 1 rfl)) ?_
    refine W.o (l1 rfl (hs.g 1 rfl) rfl) ?_
    refine rn 2 rfl ?_
    refine ci hF rfl (fun c_12 hF => ?_) (fun c_12 hF => ?_)
    · refine rn 0 rfl ?_
      refine W.o (e_faddr rfl (hs.g 1 rfl)) ?_
      refine W.o (lN (s := c24 v_8.Set) rfl (hs.g 1 rfl) rfl rfl) ?_
      refine W.o (e_faddr rfl (hs.g 0 rfl)) ?_
      refine sr hs 0 rfl rfl rfl (cs' := c52 ({ Kind := v_8.Kind, Set := v_8.Set, To := 0, Group := 0, Last := 0, Slot := 0 } : T52)) rfl rfl fun st hs => ?_
      refine rj 0 2 rfl ?_
      exact ih _ _ hF _ _ b_10 b_11 ⟨rfl, rfl, rfl, rfl, rfl, rfl, rfl, rfl, rfl, trivial⟩ (hs.p 2 [1, 0] rfl)
    refine rn 2 rfl ?_
    refine ci hF rfl (fun c_13 hF => ?_) (fun c_13 hF => ?_)
    · refine rn 0 rfl ?_
      refine ct rfl c_13 ?_
      exact ih _ _ hF _ _ b_10 b_11 ⟨rfl, rfl, rfl, rfl, rfl, rfl, rfl, rfl, trivial⟩ (hs.p 2 [1, 0] rfl)
    refine rn 2 rfl ?_
    refine ci hF rfl (fun c_14 hF => ?_) (fun c_14 hF => ?_)
    · exact ih _ _ hF _ _ b_10 b_11 ⟨rfl, rfl, rfl, rfl, rfl, rfl, rfl, rfl, trivial⟩ (hs.p 2 [1, 0] rfl)
    refine rn 2 rfl ?_
    refine ci hF rfl (fun c_15 hF => ?_) (fun c_15 hF => ?_)
    · refine rn 0 rfl ?_
      refine ct rfl c_15 ?_
      exact ih _ _ hF _ _ b_10 b_11 ⟨rfl, rfl, rfl, rfl, rfl, rfl, rfl, rfl, trivial⟩ (hs.p 2 [1, 0] rfl)
    refine rn 2 rfl ?_
    refine ci hF rfl (fun c_16 hF => ?_) (fun c_16 hF => ?_)
    · refine rn 0 rfl ?_
      refine ct rfl c_16 ?_
      exact ih _ _ hF _ _ b_10 b_11 ⟨rfl, rfl, rfl, rfl, rfl, rfl, rfl, rfl, trivial⟩ (hs.p 2 [1, 0] rfl)
    refine rn 2 rfl ?_
    refine ci hF rfl (fun c_17 hF => ?_) (fun c_17 hF => ?_)
    · exact ih _ _ hF _ _ b_10 b_11 ⟨rfl, rfl, rfl, rfl, rfl, rfl, rfl, rfl, trivial⟩ (hs.p 2 [1, 0] rfl)
    refine rn 2 rfl ?_
    refine ci hF rfl (fun c_18 hF => ?_) (fun c_18 hF => ?_)
    · refine rn 0 rfl ?_
      refine dr1 hs 0 rfl rfl rfl fun s_19 st h0 hs => ?_
      refine de rfl (e_faddr rfl (h0.g 1 rfl)) ?_
      refine de rfl (l1 rfl (h0.g 1 rfl) rfl) ?_
      refine de rfl (e_faddr rfl (h0.g 1 rfl)) ?_
      refine de rfl (l1 rfl (h0.g 1 rfl) rfl) ?_
      refine de rfl (e_faddrH rfl (h0.g 0 rfl)) ?_
      refine dsr' h0 0 hs 0 rfl rfl rfl rfl (cs' := c52 ({ Kind := v_8.Kind, Set := (Arr.rep 4 (0 : Int)), To := 0, Group := v_8.Group, Last := 0, Slot := 0 } : T52)) rfl rfl fun st hs => ?_
      refine de rfl (e_faddrH rfl (h0.g 0 rfl)) ?_
      refine dsr' h0 0 hs 0 rfl rfl rfl rfl (cs' := c52 ({ Kind := v_8.Kind, Set := (Arr.rep 4 (0 : Int)), To := 0, Group := v_8.Group, Last := v_8.Last, Slot := 0 } : T52)) rfl rfl fun st hs => ?_
      refine dz ?_
      refine rn 0 rfl ?_
      refine W.o (e_faddr rfl (hs.g 1 rfl)) ?_
      refine W.o (l1 rfl (hs.g 1 rfl) rfl) ?_
      refine rn 2 rfl ?_
      refine bi hF (fun c_20 hF => ?_) (fun c_20 hF => ?_)
      · refine wfx 98 rfl c_20 ?_
        refine W.on rfl rfl ?_
        refine W.o (e_faddr rfl (hs.g 1 rfl)) ?_
        refine W.on rfl rfl ?_
        refine W.o (l1 rfl (hs.g 1 rfl) rfl) ?_
        refine W.on rfl rfl ?_
        refine W.o (e_faddrD rfl) ?_
        refine W.on rfl rfl ?_
        refine W.o (l1D rfl rfl) ?_
        refine rn 3 rfl ?_
        refine bi hF (fun c_21 hF => ?_) (fun c_21 hF => ?_)
        · refine wfx 105 rfl c_21 ?_
          refine W.on rfl rfl ?_
          refine W.o (e_faddr rfl (hs.g 1 rfl)) ?_
          refine W.on rfl rfl ?_
          refine W.o (l1 rfl (hs.g 1 rfl) rfl) ?_
          refine W.on rfl rfl ?_
          refine W.o (e_faddr rfl (hs.g 1 rfl)) ?_
          refine W.on rfl rfl ?_
          refine W.o (l1 rfl (hs.g 1 rfl) rfl) ?_
          refine rn 3 rfl ?_
          refine bi hF (fun c_22 hF => ?_) (fun c_22 hF => ?_)
          · refine wfx 112 rfl c_22 ?_
            refine W.on rfl rfl ?_
            refine W.o (e_faddr rfl (hs.g 1 rfl)) ?_
            refine W.on rfl rfl ?_
            refine W.o (l1 rfl (hs.g 1 rfl) rfl) ?_
            refine W.on rfl rfl ?_
            refine W.o (e_faddrD rfl) ?_
            refine W.on rfl rfl ?_
            refine W.o (l1D rfl rfl) ?_
            refine rj 3 2 rfl ?_
            exact ih _ _ hF _ _ b_10 b_11 ⟨rfl, rfl, rfl, rfl, rfl, rfl, rfl, rfl, rfl, trivial⟩ (hs.p 2 [1, 0] rfl)
          refine wfx 112 rfl c_22 ?_
          refine rj 7 2 rfl ?_
          exact ih _ _ hF _ _ b_10 b_11 ⟨rfl, rfl, rfl, rfl, rfl, rfl, rfl, rfl, rfl, trivial⟩ (hs.p 2 [1, 0] rfl)
        refine wfx 105 rfl c_21 ?_
        refine rj 14 2 rfl ?_
        exact ih _ _ hF _ _ b_10 b_11 ⟨rfl, rfl, rfl, rfl, rfl, rfl, rfl, rfl, rfl, trivial⟩ (hs.p 2 [1, 0] rfl)
      refine wfx 98 rfl c_20 ?_
      refine rj 21 2 rfl ?_
      exact ih _ _ hF _ _ b_10 b_11 ⟨rfl, rfl, rfl, rfl, rfl, rfl, rfl, rfl, rfl, trivial⟩ (hs.p 2 [1, 0] rfl)
    refine rn 2 rfl ?_
    refine ci hF rfl (fun c_23 hF => ?_) (fun c_23 hF => ?_)
    · refine rn 0 rfl ?_
      refine ct rfl c_23 ?_
      exact ih _ _ hF _ _ b_10 b_11 ⟨rfl, rfl, rfl, rfl, rfl, rfl, rfl, rfl, trivial⟩ (hs.p 2 [1, 0] rfl)
    refine rn 2 rfl ?_
    refine ci hF rfl (fun c_24 hF => ?_) (fun c_24 hF => ?_)
    · exact ih _ _ hF _ _ b_10 b_11 ⟨rfl, rfl, rfl, rfl, rfl, rfl, rfl, rfl, trivial⟩ (hs.p 2 [1, 0] rfl)
    refine rn 2 rfl ?_
    refine ci hF rfl (fun c_25 hF => ?_) (fun c_25 hF => ?_)
    · refine rn 0 rfl ?_
      refine ct rfl c_25 ?_
      refine rj 0 2 rfl ?_
      exact ih _ _ hF _ _ b_10 b_11 ⟨rfl, rfl, rfl, rfl, rfl, rfl, rfl, rfl, rfl, trivial⟩ (hs.p 2 [1, 0] rfl)
    refine rn 2 rfl ?_
    refine ci hF rfl (fun c_26 hF => ?_) (fun c_26 hF => ?_)
    · refine rn 0 rfl ?_
      refine ct rfl c_26 ?_
      refine rj 0 2 rfl ?_
      exact ih _ _ hF _ _ b_10 b_11 ⟨rfl, rfl, rfl, rfl, rfl, rfl, rfl, rfl, rfl, trivial⟩ (hs.p 2 [1, 0] rfl)
    refine rn 2 rfl ?_
    refine ci hF rfl (fun c_27 hF => ?_) (fun c_27 hF => ?_)
    · refine rj 0 2 rfl ?_
      exact ih _ _ hF _ _ b_10 b_11 ⟨rfl, rfl, rfl, rfl, rfl, rfl, rfl, rfl, rfl, trivial⟩ (hs.p 2 [1, 0] rfl)
    refine rn 1 rfl ?_
    cases hF
    exact rD (rlt rl0) rfl
  refine rn 1 rfl ?_
  cases hF
  exact rD (rlt rl0) rfl
 | p2 p n i ok t38_ t39_ t40_ x_ plain =>
  dsimp only at hF
  intro tm st io0 io1 hf hs
  refine en hf ?_
  refine rn 3 rfl ?_
  refine bi hF (fun c_28 hF => ?_) (fun c_28 hF => ?_)
  · refine wfx 141 rfl c_28 ?_
    refine rn 14 rfl ?_
    refine ct rfl rfl ?_
    refine rn 1 rfl ?_
    cases hF
    exact rD (rlt rl0) rfl
  refine wfx 141 rfl c_28 ?_
  refine W.on rfl rfl ?_
  refine W.o (lN (s := c52 plain) rfl (hs.g 1 rfl) rfl rfl) ?_
  refine W.on rfl rfl ?_
  refine W.o (lN (s := c52 x_) rfl (hs.g 0 rfl) rfl rfl) ?_
  refine W.on rfl rfl ?_
  refine W.o (e_neA rfl rfl (c52_eq plain x_)) ?_
  refine rn 2 rfl ?_
  refine bi hF (fun c_29 hF => ?_) (fun c_29 hF => ?_)
  · refine wfx 146 rfl c_29 ?_
    refine rn 9 rfl ?_
    refine ct rfl rfl ?_
    refine rn 1 rfl ?_
    cases hF
    exact rD (rlt rl0) rfl
  refine wfx 146 rfl c_29 ?_
  refine W.on rfl rfl ?_
  refine W.o (e_faddr rfl (hs.g 0 rfl)) ?_
  refine W.on rfl rfl ?_
  refine W.o (l1 rfl (hs.g 0 rfl) rfl) ?_
  refine rn 7 rfl ?_
  refine ci hF rfl (fun c_30 hF => ?_) (fun c_30 hF => ?_)
  · refine rn 1 rfl ?_
    cases hF
    exact rD (rlt rl0) rfl
  refine rn 2 rfl ?_
  exact ih _ _ hF _ _ ⟨rfl, rfl, rfl, rfl, rfl, trivial⟩ (hs.p 2 [] rfl)
 | p3 p n i t38_ t39_ t40_ x_ plain =>
  dsimp only at hF
  intro tm st io0 io1 hf hs
  refine en hf ?_
  refine rn 0 rfl ?_
  refine W.o (e_faddr rfl (hs.g 0 rfl)) ?_
  refine W.o (l1 rfl (hs.g 0 rfl) rfl) ?_
  refine W.o (e_faddr rfl (hs.g 1 rfl)) ?_
  refine sr hs 1 rfl rfl rfl (cs' := c52 ({ plain with To := x_.To } : T52)) rfl rfl fun st hs => ?_
  refine rn 0 rfl ?_
  refine W.o (e_faddr rfl (hs.g 0 rfl)) ?_
  refine W.o (l1 rfl (hs.g 0 rfl) rfl) ?_
  refine rn 2 rfl ?_
  refine bi hF (fun c_31 hF => ?_) (fun c_31 hF => ?_)
  · refine wfx 64 rfl c_31 ?_
    refine W.on rfl rfl ?_
    refine W.o (e_faddr rfl (hs.g 0 rfl)) ?_
    refine W.on rfl rfl ?_
    refine W.o (l1 rfl (hs.g 0 rfl) rfl) ?_
    refine rj 4 2 rfl ?_
    exact ih _ _ hF _ _ io0 io1 ⟨rfl, rfl, rfl, rfl, rfl, rfl, rfl, rfl, rfl, trivial⟩ hs
  refine wfx 64 rfl c_31 ?_
  refine rj 6 2 rfl ?_
  exact ih _ _ hF _ _ io0 io1 ⟨rfl, rfl, rfl, rfl, rfl, rfl, rfl, rfl, rfl, trivial⟩ hs
 | p4 p n i t38_ t39_ t40_ x_ plain =>
  dsimp only at hF
  intro tm st io0 io1 hf hs
  refine en hf ?_
  refine rn 0 rfl ?_
  refine W.o (e_faddr rfl (hs.g 0 rfl)) ?_
  refine W.o (l1 rfl (hs.g 0 rfl) rfl) ?_
  refine W.o (e_faddr rfl (hs.g 1 rfl)) ?_
  refine sr hs 1 rfl rfl rfl (cs' := c52 ({ plain with Group := x_.Group } : T52)) rfl rfl fun st hs => ?_
  refine rn 0 rfl ?_
  refine W.o (e_faddr rfl (hs.g 0 rfl)) ?_
  refine W.o (l1 rfl (hs.g 0 rfl) rfl) ?_
  refine rn 2 rfl ?_
  refine bi hF (fun c_32 hF => ?_) (fun c_32 hF => ?_)
  · refine wfx 80 rfl c_32 ?_
    refine W.on rfl rfl ?_
    refine W.o (e_faddr rfl (hs.g 0 rfl)) ?_
    refine W.on rfl rfl ?_
    refine W.o (l1 rfl (hs.g 0 rfl) rfl) ?_
    refine W.on rfl rfl ?_
    refine W.o (e_faddrD rfl) ?_
    refine W.on rfl rfl ?_
    refine W.o (l1D rfl rfl) ?_
    refine rj 3 2 rfl ?_
    exact ih _ _ hF _ _ io0 io1 ⟨rfl, rfl, rfl, rfl, rfl, rfl, rfl, rfl, rfl, trivial⟩ hs
  refine wfx 80 rfl c_32 ?_
  refine rj 7 2 rfl ?_
  exact ih _ _ hF _ _ io0 io1 ⟨rfl, rfl, rfl, rfl, rfl, rfl, rfl, rfl, rfl, trivial⟩ hs
 | p5 p n i t38_ t39_ t40_ x_ plain =>
  dsimp only at hF
  intro tm st io0 io1 hf hs
  refine en hf ?_
  refine rn 0 rfl ?_
  refine W.o (e_faddr rfl (hs.g 0 rfl)) ?_
  refine W.o (l1 rfl (hs.g 0 rfl) rfl) ?_
  refine W.o (e_faddr rfl (hs.g 1 rfl)) ?_
  refine sr hs 1 rfl rfl rfl (cs' := c52 ({ plain with Slot := x_.Slot } : T52)) rfl rfl fun st hs => ?_
  refine rn 0 rfl ?_
  refine W.o (e_faddr rfl (hs.g 0 rfl)) ?_
  refine W.o (l1 rfl (hs.g 0 rfl) rfl) ?_
  refine rn 2 rfl ?_
  refine bi hF (fun c_33 hF => ?_) (fun c_33 hF => ?_)
  · refine wfx 128 rfl c_33 ?_
    refine W.on rfl rfl ?_
    refine W.o (e_faddr rfl (hs.g 0 rfl)) ?_
    refine W.on rfl rfl ?_
    refine W.o (l1 rfl (hs.g 0 rfl) rfl) ?_
    refine W.on rfl rfl ?_
    refine W.o (e_faddrD rfl) ?_
    refine W.on rfl rfl ?_
    refine W.o (l1D rfl rfl) ?_
    refine rj 3 2 rfl ?_
    exact ih _ _ hF _ _ io0 io1 ⟨rfl, rfl, rfl, rfl, rfl, rfl, rfl, rfl, rfl, trivial⟩ hs
  refine wfx 128 rfl c_33 ?_
  refine rj 7 2 rfl ?_
  exact ih _ _ hF _ _ io0 io1 ⟨rfl, rfl, rfl, rfl, rfl, rfl, rfl, rfl, rfl, trivial⟩ hs
noncomputable def F11 (p : T34) : Option Bool := (if (decide (p.Groups < 0)) = true then (some false) else (if (decide (p.Groups > 99)) = true then (some false) else (if (decide (p.Slots < 0)) = true then (some false) else (if (decide (p.Slots > 16384)) = true then (some false) else (if (decide (((ls p.Code).length : Int) < 1)) = true then (some false) else (if (decide (((ls p.Code).length : Int) > 16384)) = true then (some false) else (G11 (.p1 p ((ls p.Code).length : Int) p.Code ((ls p.Code).length : Int) 0))))))))
theorem d11 (p : T34) (r : Bool) (hF : F11 p = some r) : DFun Try.prog noG 11 [v34 p] (AV.bool r) := by
 unfold F11 at hF
 refine bD k11 rfl ?_
 have hs : SH [] [] := SH.nil
 generalize ([] : Store) = st at hs ⊢
 refine rn 0 rfl ?_
 refine W.o (e_boxD (cs := c34 p) rfl rfl (c34_one _)) ?_
 refine rn 1 rfl ?_
 refine W.o (e_faddrD rfl) ?_
 refine W.o (l1D rfl (by first | rfl | (rw [slV_cells]; rfl))) ?_
 refine W.o (e_len (rd_V rfl)) ?_
 refine rn 1 rfl ?_
 refine W.o (e_faddrD rfl) ?_
 refine W.o (l1D rfl rfl) ?_
 refine rn 2 rfl ?_
 refine bi hF (fun c_1 hF => ?_) (fun c_1 hF => ?_)
 · refine wfx 14 rfl c_1 ?_
   refine rn 22 rfl ?_
   refine ct rfl rfl ?_
   refine rn 1 rfl ?_
   cases hF
   exact rD (rlt rl0) rfl
 refine wfx 14 rfl c_1 ?_
 refine W.on rfl rfl ?_
 refine W.o (e_faddrD rfl) ?_
 refine W.on rfl rfl ?_
 refine W.o (l1D rfl rfl) ?_
 refine rn 3 rfl ?_
 refine bi hF (fun c_2 hF => ?_) (fun c_2 hF => ?_)
 · refine wfx 19 rfl c_2 ?_
   refine rn 17 rfl ?_
   refine ct rfl rfl ?_
   refine rn 1 rfl ?_
   cases hF
   exact rD (rlt rl0) rfl
 refine wfx 19 rfl c_2 ?_
 refine W.on rfl rfl ?_
 refine W.o (e_faddrD rfl) ?_
 refine W.on rfl rfl ?_
 refine W.o (l1D rfl rfl) ?_
 refine rn 3 rfl ?_
 refine bi hF (fun c_3 hF => ?_) (fun c_3 hF => ?_)
 · refine wfx 24 rfl c_3 ?_
   refine rn 12 rfl ?_
   refine ct rfl rfl ?_
   refine rn 1 rfl ?_
   cases hF
   exact rD (rlt rl0) rfl
 refine wfx 24 rfl c_3 ?_
 refine W.on rfl rfl ?_
 refine W.o (e_faddrD rfl) ?_
 refine W.on rfl rfl ?_
 refine W.o (l1D rfl rfl) ?_
 refine rn 3 rfl ?_
 refine bi hF (fun c_4 hF => ?_) (fun c_4 hF => ?_)
 · refine wfx 29 rfl c_4 ?_
   refine rn 7 rfl ?_
   refine ct rfl rfl ?_
   refine rn 1 rfl ?_
   cases hF
   exact rD (rlt rl0) rfl
 refine wfx 29 rfl c_4 ?_
 refine rn 4 rfl ?_
 refine bi hF (fun c_5 hF => ?_) (fun c_5 hF => ?_)
 · refine wfx 33 rfl c_5 ?_
   refine rn 3 rfl ?_
   refine ct rfl rfl ?_
   refine rn 1 rfl ?_
   cases hF
   exact rD (rlt rl0) rfl
 refine wfx 33 rfl c_5 ?_
 refine rn 3 rfl ?_
 refine ci hF rfl (fun c_6 hF => ?_) (fun c_6 hF => ?_)
 · refine rn 1 rfl ?_
   cases hF
   exact rD (rlt rl0) rfl
 refine rn 0 rfl ?_
 refine W.o (e_faddrD rfl) ?_
 refine W.o (l1D rfl (by first | rfl | (rw [slV_cells]; rfl))) ?_
 refine W.o (e_len (rd_V rfl)) ?_
 refine rn 1 rfl ?_
 exact w11 (.p1 p ((ls p.Code).length : Int) p.Code ((ls p.Code).length : Int) 0) _ hF _ _ ⟨rfl, rfl, rfl, rfl, rfl, trivial⟩ hs
def C32_1 : ACode := .s (.ops [q 1 (.boxD 3 0), q 2 (.mv (ki 0))]) (.s (.s (.ops [q 3 (.loadN 3 1), qc 4 11 [3], q 5 (.un .not 4)]) (.cond 5 (.s (.ops [q 2 (.mv (ki 100))]) .ret) .skip)) (.s (.s (.ops [q 6 (.loadN 3 1), qc 7 42 [6]]) (.cond 7 (.s (.ops [q 2 (.mv (ki 101))]) .ret) .skip)) (.s (.ops [q 2 (.mv (ki 0))]) .ret)))
def R32 : List RA := [(.tmp 2)]
theorem k32 : compF Try.prog (muL [1]) 32 = some ⟨8, C32_1, R32⟩ := by kernel_rfl
noncomputable def F32 (p : T34) : Option Int := (F11 p >>= fun r_1 => (if (!r_1) = true then (some 100) else (F42 p >>= fun r_4 => (if r_4 = true then (some 101) else (some 0)))))
theorem d32 (p : T34) (r : Int) (hF : F32 p = some r) : DFun Try.prog noG 32 [v34 p] (AV.int .i64 r) := by
 unfold F32 at hF
 refine bD k32 rfl ?_
 have hs : SH [] [] := SH.nil
 generalize ([] : Store) = st at hs ⊢
 refine rn 0 rfl ?_
 refine W.o (e_boxD (cs := c34 p) rfl rfl (c34_one _)) ?_
 refine rn 1 rfl ?_
 refine W.o (lND (s := c34 p) rfl rfl rfl) ?_
 obtain ⟨r_1, g_2, hF⟩ := bind_some hF
 refine df (d11 p _ g_2) rfl ?_
 refine rn 1 rfl ?_
 refine ci hF rfl (fun c_3 hF => ?_) (fun c_3 hF => ?_)
 · refine rn 1 rfl ?_
   cases hF
   exact rD (rlt rl0) rfl
 refine rn 0 rfl ?_
 refine W.o (lND (s := c34 p) rfl rfl rfl) ?_
 obtain ⟨r_4, g_5, hF⟩ := bind_some hF
 refine df (d42 p _ g_5) rfl ?_
 refine rn 0 rfl ?_
 refine ci hF rfl (fun c_6 hF => ?_) (fun c_6 hF => ?_)
 · refine rn 1 rfl ?_
   cases hF
   exact rD (rlt rl0) rfl
 refine rn 1 rfl ?_
 cases hF
 exact rD (rlt rl0) rfl
def C23_17 : ACode := .s (.ops [q 26 (.build [(.int .i64 0), (.int .i64 0)] []), q0 (.store 2 6 26), q 7 (.mv (.c (.bool false))), q 8 (.mv (ki 2))]) .ret
def C23_36 : ACode := .s (.ops [q 38 (.mv 11), q 39 (.len 38), q 40 (.binI .gtr 39 (ki 0))]) (.cond 40 (.s (.ops [q 41 (.mv 10), q 42 (.mv 11), q 43 (.mv 11), q 44 (.len 43), q 45 (.binI .sub 44 (ki 1)), q 46 (.iaddrL 1 42 45), q 47 (.load1 46), q 48 (.build [(.int .i64 0), (.int .i64 0)] [(0, (1, 41)), (1, (1, 47))]), q0 (.store 2 6 48), q 7 (.mv (.c (.bool true))), q 8 (.mv (ki 0))]) .ret) .skip)
def C23_26 : ACode := .s (.s (.ops [q 28 (.mv 10), q 29 (.mv 1), q 30 (.lenS 29), q 31 (.binI .leq 28 30)]) (.cond 31 .skip (.exit 0))) (.s (.block 1 (.s (.ops [q 34 (.loadN 3 3), q 35 (.mv 1), q 36 (.mv 10), qc 37 33 [34, 35, 36], q 11 (.mv 37)]) C23_36)) (.ops [q 32 (.mv 10), q 33 (.binI .add 32 (ki 1)), q 10 (.mv 33)]))
def C23_44 : ACode := .s (.ops [q 49 (.build [(.int .i64 0), (.int .i64 0)] []), q0 (.store 2 6 49), q 7 (.mv (.c (.bool false))), q 8 (.mv (ki 0))]) .ret
def C23_21 : ACode := .s (.s (.ops [q 27 (.mv 2), q 10 (.mv 27)]) (.block 0 (.loop C23_26))) C23_44
def C23_1 : ACode := .s (.ops [q 3 (.boxD 3 0), q 6 (.alloc [(.int .i64 0), (.int .i64 0)]), q 7 (.mv (.c (.bool false))), q 8 (.mv (ki 0))]) (.s (.s (.ops [q 12 (.loadN 3 3), qc 13 32 [12], q 9 (.mv 13)]) (.s (.ops [q 14 (.mv 9), q 15 (.binI .neq 14 (ki 0))]) (.cond 15 (.s (.ops [q 16 (.build [(.int .i64 0), (.int .i64 0)] []), q 17 (.mv 9), q0 (.store 2 6 16), q 7 (.mv (.c (.bool false))), q 8 (.mv 17)]) .ret) .skip))) (.s (.s (.ops [q 18 (.mv 2), q 19 (.binI .lss 18 (ki 0)), q 20 (.mv 19), (q 21 (.mv 2)).n 20, (q 22 (.mv 1)).n 20, (q 23 (.lenS 22)).n 20, (q 24 (.binI .gtr 21 23)).n 20, q 25 (.pick 20 (.c (.bool true)) 24)]) (.cond 25 C23_17 .skip)) C23_21))
def R23 : List RA := [(.cellN 6 2), (.tmp 7), (.tmp 8)]
theorem k23 : compF Try.prog (muL [3]) 23 = some ⟨50, C23_1, R23⟩ := by kernel_rfl
noncomputable abbrev X23 (r : T56 × Bool × Int) : Cx := cD Try.prog noG 50 R23 (AV.tup [v56 r.1, AV.bool r.2.1, AV.int .i64 r.2.2]) [3]
inductive St23 where
 | p1 (t6_ : T56)
 | p2 (s : Str) (p : T34) (i : Int) (t6_ : T56)
noncomputable def G23 : St23 → Option (T56 × Bool × Int) | .p1 t6_ => (some (({ From := 0, To := 0 } : T56), false, 2)) | .p2 s p i t6_ => (if (decide (i ≤ ((s).length : Int))) = true then (F33 p s i >>= fun r_8 => (if (decide (((ls r_8).length : Int) > 0)) = true then (ix (ls r_8) (IntKind.wrap .i64 (((ls r_8).length : Int) - 1)) >>= fun v_11 => (some (({ From := i, To := v_11 } : T56), true, 0))) else (G23 (.p2 s p (IntKind.wrap .i64 (i + 1)) t6_)))) else (some (({ From := 0, To := 0 } : T56), false, 0))) partial_fixpoint
def M23 (x : St23) (r : T56 × Bool × Int) : Prop := match x with | .p1 t6_ => ∀ (tm : Fr) (st : Store) (io0 : Nat), Frm tm [(6, .ptr io0 0)] → SH st [pt io0 (.cells (c56 t6_))] → W (X23 r) [.code C23_17, .code C23_21] tm st | .p2 s p i t6_ => ∀ (tm : Fr) (st : Store) (io0 : Nat), Frm tm [(1, AV.str s), (3, .dptr (c34 p)), (6, .ptr io0 0), (10, AV.int .i64 i)] → SH st [pt io0 (.cells (c56 t6_))] → W (X23 r) [.lp C23_26, .blk 0, .code C23_44] tm st
theorem w23 : ∀ (x : St23) (r : T56 × Bool × Int), G23 x = some r → M23 x r := by
 refine G23.partial_correctness (M23) ?_
 intro g ih x r hF
 cases x with
 | p1 t6_ =>
  dsimp only at hF
  intro tm st io0 hf hs
  refine en hf ?_
  refine rn 0 rfl ?_
  refine W.o (bR (cs := c56 ({ From := 0, To := 0 } : T56)) rfl rfl) ?_
  refine sr hs 0 rfl rfl rfl (cs' := c56 ({ From := 0, To := 0 } : T56)) rfl rfl fun st hs => ?_
  refine rn 2 rfl ?_
  cases hF
  exact rD (rl_cellN rfl (hs.g 0 rfl) (LR.whole _ _) (c56_len _) (rlt (rlt rl0))) rfl
 | p2 s p i t6_ =>
  dsimp only at hF
  intro tm st io0 hf hs
  refine en hf ?_
  refine lp ?_
  refine rn 4 rfl ?_
  refine ci hF rfl (fun c_7 hF => ?_) (fun c_7 hF => ?_)
  · refine rn 0 rfl ?_
    refine W.o (lND (s := c34 p) rfl rfl rfl) ?_
    obtain ⟨r_8, g_9, hF⟩ := bind_some hF
    refine rn 2 rfl ?_
    refine df (dfun_rv (es := 1) (c := cI .i64) (g := AV.int .i64) rfl (cI_len .i64) (cI_one .i64) (fun _ => rfl) (fun st L K hs hK => d33 p s i _ g_9 K L st hs hK)) rfl ?_
    refine rn 2 rfl ?_
    refine W.o (e_len (rd_V rfl)) ?_
    refine rn 1 rfl ?_
    refine ci hF rfl (fun c_10 hF => ?_) (fun c_10 hF => ?_)
    · refine rn 3 rfl ?_
      refine W.o (e_len (rd_V rfl)) ?_
      obtain ⟨v_11, g_12, hF⟩ := bind_some hF
      refine rn 1 rfl ?_
      refine W.o (e_iaddrL (rd_V rfl) rfl g_12) ?_
      refine W.o (l1D rfl rfl) ?_
      refine W.o (bR (cs := c56 ({ From := i, To := v_11 } : T56)) rfl rfl) ?_
      refine sr hs 0 rfl rfl rfl (cs' := c56 ({ From := i, To := v_11 } : T56)) rfl rfl fun st hs => ?_
      refine rn 2 rfl ?_
      cases hF
      exact rD (rl_cellN rfl (hs.g 0 rfl) (LR.whole _ _) (c56_len _) (rlt (rlt rl0))) rfl
    refine rn 3 rfl ?_
    exact ih _ _ hF _ _ io0 ⟨rfl, rfl, rfl, rfl, trivial⟩ hs
  refine rn 0 rfl ?_
  refine W.o (bR (cs := c56 ({ From := 0, To := 0 } : T56)) rfl rfl) ?_
  refine sr hs 0 rfl rfl rfl (cs' := c56 ({ From := 0, To := 0 } : T56)) rfl rfl fun st hs => ?_
  refine rn 2 rfl ?_
  cases hF
  exact rD (rl_cellN rfl (hs.g 0 rfl) (LR.whole _ _) (c56_len _) (rlt (rlt rl0))) rfl
noncomputable def F23 (p : T34) (s : Str) (from_ : Int) : Option (T56 × Bool × Int) := (F32 p >>= fun r_2 => (if (r_2 != 0) = true then (some (({ From := 0, To := 0 } : T56), false, r_2)) else (if (decide (from_ < 0)) = true then (G23 (.p1 ({ From := 0, To := 0 } : T56))) else (if (decide (from_ > ((s).length : Int))) = true then (G23 (.p1 ({ From := 0, To := 0 } : T56))) else (G23 (.p2 s p from_ ({ From := 0, To := 0 } : T56)))))))
theorem d23 (p : T34) (s : Str) (from_ : Int) (r : T56 × Bool × Int) (hF : F23 p s from_ = some r) : DFun Try.prog noG 23 [v34 p, AV.str s, AV.int .i64 from_] (AV.tup [v56 r.1, AV.bool r.2.1, AV.int .i64 r.2.2]) := by
 unfold F23 at hF
 refine bD k23 rfl ?_
 have hs : SH [] [] := SH.nil
 generalize ([] : Store) = st at hs ⊢
 refine rn 0 rfl ?_
 refine W.o (e_boxD (cs := c34 p) rfl rfl (c34_one _)) ?_
 refine al hs (cs := c56 ({ From := 0, To := 0 } : T56)) rfl fun st b_1 hs => ?_
 refine rn 2 rfl ?_
 refine W.o (lND (s := c34 p) rfl rfl rfl) ?_
 obtain ⟨r_2, g_3, hF⟩ := bind_some hF
 refine df (d32 p _ g_3) rfl ?_
 refine rn 3 rfl ?_
 refine ci hF rfl (fun c_4 hF => ?_) (fun c_4 hF => ?_)
 · refine rn 0 rfl ?_
   refine W.o (bR (cs := c56 ({ From := 0, To := 0 } : T56)) rfl rfl) ?_
   refine rn 1 rfl ?_
   refine sr hs 0 rfl rfl rfl (cs' := c56 ({ From := 0, To := 0 } : T56)) rfl rfl fun st hs => ?_
   refine rn 2 rfl ?_
   cases hF
   exact rD (rl_cellN rfl (hs.g 0 rfl) (LR.whole _ _) (c56_len _) (rlt (rlt rl0))) rfl
 refine rn 3 rfl ?_
 refine bi hF (fun c_5 hF => ?_) (fun c_5 hF => ?_)
 · refine wfx 20 rfl c_5 ?_
   refine rn 5 rfl ?_
   refine ct rfl rfl ?_
   exact w23 (.p1 ({ From := 0, To := 0 } : T56)) _ hF _ _ b_1 ⟨rfl, trivial⟩ hs
 refine wfx 20 rfl c_5 ?_
 refine rn 5 rfl ?_
 refine ci hF rfl (fun c_6 hF => ?_) (fun c_6 hF => ?_)
 · exact w23 (.p1 ({ From := 0, To := 0 } : T56)) _ hF _ _ b_1 ⟨rfl, trivial⟩ hs
 refine rn 2 rfl ?_
 exact w23 (.p2 s p from_ ({ From := 0, To := 0 } : T56)) _ hF _ _ b_1 ⟨rfl, rfl, rfl, rfl, trivial⟩ hs
def O8_14o1 : List AOp := (q 55 (.loadN 2 7)).y 54 :: (q 56 (.build [(.int .i64 0), (.int .i64 0)] [(0, (1, (ki 1))), (1, (1, (ki 3)))])).y 54 :: (q 57 (.eqA false [.i, .i] 55 56)).y 54 :: q 58 (.pick 54 57 (.c (.bool false))) :: q 0 (.mv 58) :: []
def O8_14o0 : List AOp := q 31 (.mv 4) :: q 32 (.binI .eql 31 (ki 0)) :: q 33 (.mv 32) :: (q 34 (.mv 6)).y 33 :: (q 35 (.binI .eql 34 (ki 0))).y 33 :: q 36 (.pick 33 35 (.c (.bool false))) :: q 37 (.mv 36) :: (q 38 (.mv 5)).y 37 :: (q 39 (.binI .eql 38 (ki 7))).y 37 :: q 40 (.pick 37 39 (.c (.bool false))) :: q 41 (.mv 40) :: (q 42 (.faddr 2 3)).y 41 :: (q 43 (.load1 42)).y 41 :: (q 44 (.len 43)).y 41 :: (q 45 (.binI .eql 44 (ki 7))).y 41 :: q 46 (.pick 41 45 (.c (.bool false))) :: q 47 (.mv 46) :: (q 48 (.mv 9)).y 47 :: (q 49 (.binI .eql 48 (ki 0))).y 47 :: q 50 (.pick 47 49 (.c (.bool false))) :: q 51 (.mv 50) :: (q 52 (.mv 8)).y 51 :: q 53 (.pick 51 52 (.c (.bool false))) :: q 54 (.mv 53) :: O8_14o1
def C8_1 : ACode := .s (.ops [q 0 (.mv (.c (.bool false)))]) (.s (.ops [q 10 (.build [(.int .u64 0), (.int .u64 0), (.int .u64 0), (.int .u64 0)] [(0, (1, (.c (.int .u64 0)))), (1, (1, (.c (.int .u64 8589934592))))]), q 1 (.alloc [(.int .u64 0), (.int .u64 0), (.int .u64 0), (.int .u64 0)]), q0 (.store 4 1 10)]) (.s (.ops [q 11 (.loadN 4 1), q 12 (.build [(.int .u8 0), (.int .u64 0), (.int .u64 0), (.int .u64 0), (.int .u64 0), (.int .i64 0), (.int .i64 0), (.int .i64 0), .nils] [(0, (1, (ku 2))), (1, (4, 11))]), q 13 (.bslD 9 1 true [(.int .u8 0), (.int .u64 0), (.int .u64 0), (.int .u64 0), (.int .u64 0), (.int .i64 0), (.int .i64 0), (.int .i64 0), .nils] [(0, (9, 12))]), q 14 (.build [(.int .u8 0), (.int .u64 0), (.int .u64 0), (.int .u64 0), (.int .u64 0), (.int .i64 0), (.int .i64 0), (.int .i64 0), .nils] [(0, (1, (ku 5))), (5, (1, (ki 1))), (6, (1, (ki (-1)))), (8, (1, 13))]), q 2 (.alloc [(.int .u8 0), (.int .u64 0), (.int .u64 0), (.int .u64 0), (.int .u64 0), (.int .i64 0), (.int .i64 0), (.int .i64 0), .nils]), q0 (.store 9 2 14)]) (.s (.ops [q 16 (.loadN 9 2), qc 17 10 [16], q 15 (.mv 17), q 18 (.extract 15 0), q 19 (.extract 15 1), q 3 (.alloc [(.int .i64 0), (.int .i64 0), .nils]), q0 (.store 3 3 18), q 4 (.mv 19)]) (.s (.ops [q 21 (.loadN 9 2), qc 22 9 [21], q 20 (.mv 22), q 23 (.extract 20 0), q 24 (.extract 20 1), q 5 (.mv 23), q 6 (.mv 24)]) (.s (.ops [q 26 (.loadN 3 3), qc 27 23 [26, (.c (.str [98, 97, 97])), (ki 0)], q 25 (.mv 27), q 28 (.extract 25 0), q 29 (.extract 25 1), q 30 (.extract 25 2), q 7 (.alloc [(.int .i64 0), (.int .i64 0)]), q0 (.store 2 7 28), q 8 (.mv 29), q 9 (.mv 30)]) (.s (.ops O8_14o0) .ret))))))
def R8 : List RA := [(.tmp 0)]
theorem k8 : compF Try.prog (muL [13]) 8 = some ⟨59, C8_1, R8⟩ := by kernel_rfl
noncomputable def F8  : Option Bool := (F10 ({ Kind := 5, Set := (Arr.rep 4 (0 : Int)), Min := 1, Max := (-1), Group := 0, Kids := (some ([({ Kind := 2, Set := (aset (aset (Arr.rep 4 (0 : Int)) 0 0) 1 8589934592), Min := 0, Max := 0, Group := 0, Kids := none } : T27)] : List T27)) } : T27) >>= fun r_3 => (F9 ({ Kind := 5, Set := (Arr.rep 4 (0 : Int)), Min := 1, Max := (-1), Group := 0, Kids := (some ([({ Kind := 2, Set := (aset (aset (Arr.rep 4 (0 : Int)) 0 0) 1 8589934592), Min := 0, Max := 0, Group := 0, Kids := none } : T27)] : List T27)) } : T27) >>= fun r_6 => (F23 r_3.1 ([98, 97, 97] : Str) 0 >>= fun r_8 => (if (r_3.2 == 0) = true then (if (r_6.2 == 0) = true then (if (r_6.1 == 7) = true then (if (((ls r_3.1.Code).length : Int) == 7) = true then (if (r_8.2.2 == 0) = true then (if r_8.2.1 = true then (some (decide (r_8.1 = ({ From := 1, To := 3 } : T56)))) else (some false)) else (some false)) else (some false)) else (some false)) else (some false)) else (some false)))))
theorem d8  (r : Bool) (hF : F8 = some r) : DFun Try.prog noG 8 [] (AV.bool r) := by
 unfold F8 at hF
 refine bD k8 rfl ?_
 have hs : SH [] [] := SH.nil
 generalize ([] : Store) = st at hs ⊢
 refine rn 1 rfl ?_
 refine W.o (e_build (z := [(.int .u64 0), (.int .u64 0), (.int .u64 0), (.int .u64 0)]) (cs := c24 (aset (aset (Arr.rep 4 (0 : Int)) 0 0) 1 8589934592)) (pk_cons (cs := cI .u64 0) rfl rfl ((cI_len .u64) _) (by decide) (pk_cons (cs := cI .u64 8589934592) rfl rfl ((cI_len .u64) _) (by decide) pk_nil)) (show fillA (c24 (Arr.rep 4 (0 : Int))) _ = _ from (fl_cons (lrF_set (i := 0) (x := 0) (cI_len .u64) rfl 0) (((cI_len .u64) _).trans ((cI_len .u64) _).symm) (fl_cons (lrF_set (i := 1) (x := 0) (cI_len .u64) rfl 8589934592) (((cI_len .u64) _).trans ((cI_len .u64) _).symm) (fl_nil _))))) ?_
 refine al hs (cs := c24 (Arr.rep 4 (0 : Int))) rfl fun st b_1 hs => ?_
 refine sr hs 0 rfl rfl rfl (cs' := c24 (aset (aset (Arr.rep 4 (0 : Int)) 0 0) 1 8589934592)) rfl rfl fun st hs => ?_
 refine rn 0 rfl ?_
 refine W.o (lN (s := c24 (aset (aset (Arr.rep 4 (0 : Int)) 0 0) 1 8589934592)) rfl (hs.g 0 rfl) rfl rfl) ?_
 refine W.o (e_build (z := [(.int .u8 0), (.int .u64 0), (.int .u64 0), (.int .u64 0), (.int .u64 0), (.int .i64 0), (.int .i64 0), (.int .i64 0), .nils]) (cs := c27 ({ Kind := 2, Set := (aset (aset (Arr.rep 4 (0 : Int)) 0 0) 1 8589934592), Min := 0, Max := 0, Group := 0, Kids := none } : T27)) (pk_cons (cs := cI .u8 2) rfl rfl ((cI_len .u8) _) (by decide) (pk_cons (cs := c24 (aset (aset (Arr.rep 4 (0 : Int)) 0 0) 1 8589934592)) rfl rfl (c24_len _) (by decide) pk_nil)) (show fillA (c27 ({ Kind := 0, Set := (Arr.rep 4 (0 : Int)), Min := 0, Max := 0, Group := 0, Kids := none } : T27)) _ = _ from (fl_cons (lr27_Kind ({ Kind := 0, Set := (Arr.rep 4 (0 : Int)), Min := 0, Max := 0, Group := 0, Kids := none } : T27) 2) (((cI_len .u8) _).trans ((cI_len .u8) _).symm) (fl_cons (lr27_Set ({ Kind := 2, Set := (Arr.rep 4 (0 : Int)), Min := 0, Max := 0, Group := 0, Kids := none } : T27) (aset (aset (Arr.rep 4 (0 : Int)) 0 0) 1 8589934592)) ((c24_len _).trans (c24_len _).symm) (fl_nil _))))) ?_
 refine W.o (e_bslG (f := v27) (c := c27) ([({ Kind := 2, Set := (aset (aset (Arr.rep 4 (0 : Int)) 0 0) 1 8589934592), Min := 0, Max := 0, Group := 0, Kids := none } : T27)] : List T27) (pk_cons (cs := c27 ({ Kind := 2, Set := (aset (aset (Arr.rep 4 (0 : Int)) 0 0) 1 8589934592), Min := 0, Max := 0, Group := 0, Kids := none } : T27)) rfl rfl (c27_len _) (by decide) pk_nil) rfl rfl c27_len c27_one (fun _ => rfl) rfl) ?_
 refine W.o (e_build (z := [(.int .u8 0), (.int .u64 0), (.int .u64 0), (.int .u64 0), (.int .u64 0), (.int .i64 0), (.int .i64 0), (.int .i64 0), .nils]) (cs := c27 ({ Kind := 5, Set := (Arr.rep 4 (0 : Int)), Min := 1, Max := (-1), Group := 0, Kids := (some ([({ Kind := 2, Set := (aset (aset (Arr.rep 4 (0 : Int)) 0 0) 1 8589934592), Min := 0, Max := 0, Group := 0, Kids := none } : T27)] : List T27)) } : T27)) (pk_cons (cs := cI .u8 5) rfl rfl ((cI_len .u8) _) (by decide) (pk_cons (cs := cI .i64 1) rfl rfl ((cI_len .i64) _) (by decide) (pk_cons (cs := cI .i64 (-1)) rfl rfl ((cI_len .i64) _) (by decide) (pk_cons (cs := cSl 9 v27 (some ([({ Kind := 2, Set := (aset (aset (Arr.rep 4 (0 : Int)) 0 0) 1 8589934592), Min := 0, Max := 0, Group := 0, Kids := none } : T27)] : List T27))) (v := slV 9 v27 (some ([({ Kind := 2, Set := (aset (aset (Arr.rep 4 (0 : Int)) 0 0) 1 8589934592), Min := 0, Max := 0, Group := 0, Kids := none } : T27)] : List T27))) rfl slV_cells (cSl_len _) (by decide) pk_nil)))) (show fillA (c27 ({ Kind := 0, Set := (Arr.rep 4 (0 : Int)), Min := 0, Max := 0, Group := 0, Kids := none } : T27)) _ = _ from (fl_cons (lr27_Kind ({ Kind := 0, Set := (Arr.rep 4 (0 : Int)), Min := 0, Max := 0, Group := 0, Kids := none } : T27) 5) (((cI_len .u8) _).trans ((cI_len .u8) _).symm) (fl_cons (lr27_Min ({ Kind := 5, Set := (Arr.rep 4 (0 : Int)), Min := 0, Max := 0, Group := 0, Kids := none } : T27) 1) (((cI_len .i64) _).trans ((cI_len .i64) _).symm) (fl_cons (lr27_Max ({ Kind := 5, Set := (Arr.rep 4 (0 : Int)), Min := 1, Max := 0, Group := 0, Kids := none } : T27) (-1)) (((cI_len .i64) _).trans ((cI_len .i64) _).symm) (fl_cons (lr27_Kids ({ Kind := 5, Set := (Arr.rep 4 (0 : Int)), Min := 1, Max := (-1), Group := 0, Kids := none } : T27) (some ([({ Kind := 2, Set := (aset (aset (Arr.rep 4 (0 : Int)) 0 0) 1 8589934592), Min := 0, Max := 0, Group := 0, Kids := none } : T27)] : List T27))) ((cSl_len _).trans (cSl_len _).symm) (fl_nil _))))))) ?_
 refine al hs (cs := c27 ({ Kind := 0, Set := (Arr.rep 4 (0 : Int)), Min := 0, Max := 0, Group := 0, Kids := none } : T27)) rfl fun st b_2 hs => ?_
 refine sl hs 0 rfl rfl (LR.whole _ _) (c27_len _) rfl (c27_len _) (c27_one _) rfl fun st hs => ?_
 refine rn 0 rfl ?_
 refine W.o (e_loadN rfl (hs.g 0 rfl) (LR.whole _ _) (c27_len _)) ?_
 obtain ⟨r_3, g_4, hF⟩ := bind_some hF
 refine df (d10 _ _ g_4) rfl ?_
 refine rn 3 rfl ?_
 refine al hs (cs := c34 ({ Groups := 0, Slots := 0, Code := none } : T34)) rfl fun st b_5 hs => ?_
 refine sl hs 0 rfl rfl (LR.whole _ _) (c34_len _) rfl (c34_len _) (c34_one _) rfl fun st hs => ?_
 refine rn 1 rfl ?_
 refine W.o (e_loadN rfl (hs.g 1 rfl) (LR.whole _ _) (c27_len _)) ?_
 obtain ⟨r_6, g_7, hF⟩ := bind_some hF
 refine df (d9 _ _ g_7) rfl ?_
 refine rn 5 rfl ?_
 refine W.o (lN (s := c34 r_3.1) rfl (hs.g 0 rfl) rfl rfl) ?_
 obtain ⟨r_8, g_9, hF⟩ := bind_some hF
 refine df (d23 _ _ _ _ g_9) rfl ?_
 refine rn 4 rfl ?_
 refine al hs (cs := c56 ({ From := 0, To := 0 } : T56)) rfl fun st b_10 hs => ?_
 refine sr hs 0 rfl rfl rfl (cs' := c56 r_8.1) rfl rfl fun st hs => ?_
 refine rn 5 rfl ?_
 refine bi hF (fun c_11 hF => ?_) (fun c_11 hF => ?_)
 · refine wfx 33 rfl c_11 ?_
   refine rn 4 rfl ?_
   refine bi hF (fun c_12 hF => ?_) (fun c_12 hF => ?_)
   · refine wfx 37 rfl c_12 ?_
     refine rn 4 rfl ?_
     refine bi hF (fun c_13 hF => ?_) (fun c_13 hF => ?_)
     · refine wfx 41 rfl c_13 ?_
       refine W.on rfl rfl ?_
       refine W.o (e_faddr rfl (hs.g 1 rfl)) ?_
       refine W.on rfl rfl ?_
       refine W.o (l1 rfl (hs.g 1 rfl) rfl) ?_
       refine W.on rfl rfl ?_
       refine W.o (e_len (rd_V rfl)) ?_
       refine rn 3 rfl ?_
       refine bi hF (fun c_14 hF => ?_) (fun c_14 hF => ?_)
       · refine wfx 47 rfl c_14 ?_
         refine rn 4 rfl ?_
         refine bi hF (fun c_15 hF => ?_) (fun c_15 hF => ?_)
         · refine wfx 51 rfl c_15 ?_
           refine rn 3 rfl ?_
           refine bi hF (fun c_16 hF => ?_) (fun c_16 hF => ?_)
           · refine wfx 54 rfl c_16 ?_
             refine W.on rfl rfl ?_
             refine W.o (lN (s := c56 r_8.1) rfl (hs.g 0 rfl) rfl rfl) ?_
             refine W.on rfl rfl ?_
             refine W.o (bR (cs := c56 ({ From := 1, To := 3 } : T56)) rfl rfl) ?_
             refine W.on rfl rfl ?_
             refine W.o (e_eqA rfl rfl (c56_eq r_8.1 ({ From := 1, To := 3 } : T56))) ?_
             refine rn 2 rfl ?_
             cases hF
             exact rD (rlt rl0) rfl
           refine wfx 54 rfl c_16 ?_
           refine rn 5 rfl ?_
           cases hF
           exact rD (rlt rl0) rfl
         refine wfx 51 rfl c_15 ?_
         refine rn 8 rfl ?_
         cases hF
         exact rD (rlt rl0) rfl
       refine wfx 47 rfl c_14 ?_
       refine rn 12 rfl ?_
       cases hF
       exact rD (rlt rl0) rfl
     refine wfx 41 rfl c_13 ?_
     refine rn 18 rfl ?_
     cases hF
     exact rD (rlt rl0) rfl
   refine wfx 37 rfl c_12 ?_
   refine rn 22 rfl ?_
   cases hF
   exact rD (rlt rl0) rfl
 refine wfx 33 rfl c_11 ?_
 refine rn 26 rfl ?_
 cases hF
 exact rD (rlt rl0) rfl
def C17_1 : ACode := .s (.ops [q 3 (.boxD 3 0), q 6 (.mv (.c .nils)), q 7 (.mv (ki 0))]) (.s (.s (.ops [q 9 (.loadN 3 3), qc 10 32 [9], q 8 (.mv 10)]) (.s (.ops [q 11 (.mv 8), q 12 (.binI .neq 11 (ki 0))]) (.cond 12 (.s (.ops [q 13 (.mv 8), q 6 (.mv (.c .nils)), q 7 (.mv 13)]) .ret) .skip))) (.s (.s (.ops [q 14 (.mv 2), q 15 (.binI .lss 14 (ki 0)), q 16 (.mv 15), (q 17 (.mv 2)).n 16, (q 18 (.mv 1)).n 16, (q 19 (.lenS 18)).n 16, (q 20 (.binI .gtr 17 19)).n 16, q 21 (.pick 16 (.c (.bool true)) 20)]) (.cond 21 (.s (.ops [q 6 (.mv (.c .nils)), q 7 (.mv (ki 2))]) .ret) .skip)) (.s (.ops [q 22 (.loadN 3 3), q 23 (.mv 1), q 24 (.mv 2), qc 25 33 [22, 23, 24], q 6 (.mv 25), q 7 (.mv (ki 0))]) .ret)))
def R17 : List RA := [(.tmp 6), (.tmp 7)]
theorem k17 : compF Try.prog (muL [3]) 17 = some ⟨26, C17_1, R17⟩ := by kernel_rfl
noncomputable def F17 (p : T34) (s : Str) (from_ : Int) : Option (Sl Int × Int) := (F32 p >>= fun r_1 => (if (r_1 != 0) = true then (some (none, r_1)) else (if (decide (from_ < 0)) = true then (some (none, 2)) else (if (decide (from_ > ((s).length : Int))) = true then (some (none, 2)) else (F33 p s from_ >>= fun r_6 => (some (r_6, 0)))))))
theorem d17 (p : T34) (s : Str) (from_ : Int) (r : Sl Int × Int) (hF : F17 p s from_ = some r) : DFun Try.prog noG 17 [v34 p, AV.str s, AV.int .i64 from_] (AV.tup [slV 1 (AV.int .i64) r.1, AV.int .i64 r.2]) := by
 unfold F17 at hF
 refine bD k17 rfl ?_
 have hs : SH [] [] := SH.nil
 generalize ([] : Store) = st at hs ⊢
 refine rn 0 rfl ?_
 refine W.o (e_boxD (cs := c34 p) rfl rfl (c34_one _)) ?_
 refine rn 2 rfl ?_
 refine W.o (lND (s := c34 p) rfl rfl rfl) ?_
 obtain ⟨r_1, g_2, hF⟩ := bind_some hF
 refine df (d32 p _ g_2) rfl ?_
 refine rn 3 rfl ?_
 refine ci hF rfl (fun c_3 hF => ?_) (fun c_3 hF => ?_)
 · refine rn 3 rfl ?_
   cases hF
   exact rD (rlt (rlt rl0)) rfl
 refine rn 3 rfl ?_
 refine bi hF (fun c_4 hF => ?_) (fun c_4 hF => ?_)
 · refine wfx 16 rfl c_4 ?_
   refine rn 5 rfl ?_
   refine ct rfl rfl ?_
   refine rn 2 rfl ?_
   cases hF
   exact rD (rlt (rlt rl0)) rfl
 refine wfx 16 rfl c_4 ?_
 refine rn 5 rfl ?_
 refine ci hF rfl (fun c_5 hF => ?_) (fun c_5 hF => ?_)
 · refine rn 2 rfl ?_
   cases hF
   exact rD (rlt (rlt rl0)) rfl
 refine rn 0 rfl ?_
 refine W.o (lND (s := c34 p) rfl rfl rfl) ?_
 obtain ⟨r_6, g_7, hF⟩ := bind_some hF
 refine rn 2 rfl ?_
 refine df (dfun_rv (es := 1) (c := cI .i64) (g := AV.int .i64) rfl (cI_len .i64) (cI_one .i64) (fun _ => rfl) (fun st L K hs hK => d33 p s from_ _ g_7 K L st hs hK)) rfl ?_
 refine rn 2 rfl ?_
 cases hF
 exact rD (rlt (rlt rl0)) rfl
def C21_34 : ACode := .s (.ops [q 41 (.iaddrL 1 37 39), q 42 (.load1 41), q 10 (.mv 42)]) (.s (.ops [q 43 (.mv 10), q 44 (.faddr 1 5), q 45 (.load1 44), q 46 (.binI .eql 43 45)]) (.cond 46 (.s (.ops [q 6 (.mv (.c (.bool true))), q 7 (.mv (ki 0))]) .ret) .skip))
def C21_26 : ACode := .s (.ops [q 40 (.binI .lss 39 38)]) (.s (.cond 40 .skip (.exit 0)) (.s (.block 1 C21_34) (.ops [q 47 (.binI .add 39 (ki 1)), q 39 (.mv 47)])))
def C21_44 : ACode := .s (.ops [q 6 (.mv (.c (.bool false))), q 7 (.mv (ki 0))]) .ret
def C21_1 : ACode := .s (.ops [q 3 (.boxD 3 0), q 5 (.boxD 2 2), q 6 (.mv (.c (.bool false))), q 7 (.mv (ki 0))]) (.s (.s (.ops [q 11 (.loadN 3 3), qc 12 32 [11], q 8 (.mv 12)]) (.s (.ops [q 13 (.mv 8), q 14 (.binI .neq 13 (ki 0))]) (.cond 14 (.s (.ops [q 15 (.mv 8), q 6 (.mv (.c (.bool false))), q 7 (.mv 15)]) .ret) .skip))) (.s (.s (.ops [q 16 (.faddr 0 5), q 17 (.load1 16), q 18 (.binI .lss 17 (ki 0)), q 19 (.mv 18), (q 20 (.faddr 1 5)).n 19, (q 21 (.load1 20)).n 19, (q 22 (.faddr 0 5)).n 19, (q 23 (.load1 22)).n 19, (q 24 (.binI .lss 21 23)).n 19, q 25 (.pick 19 (.c (.bool true)) 24), q 26 (.mv 25), (q 27 (.faddr 1 5)).n 26, (q 28 (.load1 27)).n 26, (q 29 (.mv 1)).n 26, (q 30 (.lenS 29)).n 26, (q 31 (.binI .gtr 28 30)).n 26, q 32 (.pick 26 (.c (.bool true)) 31)]) (.cond 32 (.s (.ops [q 6 (.mv (.c (.bool false))), q 7 (.mv (ki 2))]) .ret) .skip)) (.s (.s (.ops [q 33 (.loadN 3 3), q 34 (.mv 1), q 35 (.faddr 0 5), q 36 (.load1 35), qc 37 33 [33, 34, 36], q 38 (.len 37), q 39 (.mv (ki 0))]) (.block 0 (.loop C21_26))) C21_44)))
def R21 : List RA := [(.tmp 6), (.tmp 7)]
theorem k21 : compF Try.prog (muL [3, 5]) 21 = some ⟨48, C21_1, R21⟩ := by kernel_rfl
noncomputable abbrev X21 (r : Bool × Int) : Cx := cD Try.prog noG 48 R21 (AV.tup [AV.bool r.1, AV.int .i64 r.2]) [3, 5]
inductive St21 where
 | p1 (at_ : T56) (t37_ : Sl Int) (t38_ : Int) (t39_ : Int)
noncomputable def G21 : St21 → Option (Bool × Int) | .p1 at_ t37_ t38_ t39_ => (if (decide (t39_ < t38_)) = true then (ix (ls t37_) t39_ >>= fun v_10 => (if (v_10 == at_.To) = true then (some (true, 0)) else (G21 (.p1 at_ t37_ t38_ (IntKind.wrap .i64 (t39_ + 1)))))) else (some (false, 0))) partial_fixpoint
def M21 (x : St21) (r : Bool × Int) : Prop := match x with | .p1 at_ t37_ t38_ t39_ => ∀ (tm : Fr) (st : Store), Frm tm [(5, .dptr (c56 at_)), (37, slV 1 (AV.int .i64) t37_), (38, AV.int .i64 t38_), (39, AV.int .i64 t39_)] → SH st [] → W (X21 r) [.lp C21_26, .blk 0, .code C21_44] tm st
theorem w21 : ∀ (x : St21) (r : Bool × Int), G21 x = some r → M21 x r := by
 refine G21.partial_correctness (M21) ?_
 intro g ih x r hF
 cases x with
 | p1 at_ t37_ t38_ t39_ =>
  dsimp only at hF
  intro tm st hf hs
  refine en hf ?_
  refine lp ?_
  refine rn 1 rfl ?_
  refine ci hF rfl (fun c_9 hF => ?_) (fun c_9 hF => ?_)
  · obtain ⟨v_10, g_11, hF⟩ := bind_some hF
    refine rn 0 rfl ?_
    refine W.o (e_iaddrL (rd_V rfl) rfl g_11) ?_
    refine W.o (l1D rfl rfl) ?_
    refine rn 2 rfl ?_
    refine W.o (e_faddrD rfl) ?_
    refine W.o (l1D rfl rfl) ?_
    refine rn 1 rfl ?_
    refine ci hF rfl (fun c_12 hF => ?_) (fun c_12 hF => ?_)
    · refine rn 2 rfl ?_
      cases hF
      exact rD (rlt (rlt rl0)) rfl
    refine rn 2 rfl ?_
    exact ih _ _ hF _ _ ⟨rfl, rfl, rfl, rfl, trivial⟩ hs
  refine rn 2 rfl ?_
  cases hF
  exact rD (rlt (rlt rl0)) rfl
noncomputable def F21 (p : T34) (s : Str) (at_ : T56) : Option (Bool × Int) := (F32 p >>= fun r_1 => (if (r_1 != 0) = true then (some (false, r_1)) else (if (decide (at_.From < 0)) = true then (some (false, 2)) else (if (decide (at_.To < at_.From)) = true then (some (false, 2)) else (if (decide (at_.To > ((s).length : Int))) = true then (some (false, 2)) else (F33 p s at_.From >>= fun r_7 => (G21 (.p1 at_ r_7 ((ls r_7).length : Int) 0))))))))
theorem d21 (p : T34) (s : Str) (at_ : T56) (r : Bool × Int) (hF : F21 p s at_ = some r) : DFun Try.prog noG 21 [v34 p, AV.str s, v56 at_] (AV.tup [AV.bool r.1, AV.int .i64 r.2]) := by
 unfold F21 at hF
 refine bD k21 rfl ?_
 have hs : SH [] [] := SH.nil
 generalize ([] : Store) = st at hs ⊢
 refine rn 0 rfl ?_
 refine W.o (e_boxD (cs := c34 p) rfl rfl (c34_one _)) ?_
 refine W.o (e_boxD (cs := c56 at_) rfl rfl rfl) ?_
 refine rn 2 rfl ?_
 refine W.o (lND (s := c34 p) rfl rfl rfl) ?_
 obtain ⟨r_1, g_2, hF⟩ := bind_some hF
 refine df (d32 p _ g_2) rfl ?_
 refine rn 3 rfl ?_
 refine ci hF rfl (fun c_3 hF => ?_) (fun c_3 hF => ?_)
 · refine rn 3 rfl ?_
   cases hF
   exact rD (rlt (rlt rl0)) rfl
 refine rn 0 rfl ?_
 refine W.o (e_faddrD rfl) ?_
 refine W.o (l1D rfl rfl) ?_
 refine rn 2 rfl ?_
 refine bi hF (fun c_4 hF => ?_) (fun c_4 hF => ?_)
 · refine wfx 19 rfl c_4 ?_
   refine rn 13 rfl ?_
   refine ct rfl rfl ?_
   refine rn 2 rfl ?_
   cases hF
   exact rD (rlt (rlt rl0)) rfl
 refine wfx 19 rfl c_4 ?_
 refine W.on rfl rfl ?_
 refine W.o (e_faddrD rfl) ?_
 refine W.on rfl rfl ?_
 refine W.o (l1D rfl rfl) ?_
 refine W.on rfl rfl ?_
 refine W.o (e_faddrD rfl) ?_
 refine W.on rfl rfl ?_
 refine W.o (l1D rfl rfl) ?_
 refine rn 3 rfl ?_
 refine bi hF (fun c_5 hF => ?_) (fun c_5 hF => ?_)
 · refine wfx 26 rfl c_5 ?_
   refine rn 6 rfl ?_
   refine ct rfl rfl ?_
   refine rn 2 rfl ?_
   cases hF
   exact rD (rlt (rlt rl0)) rfl
 refine wfx 26 rfl c_5 ?_
 refine W.on rfl rfl ?_
 refine W.o (e_faddrD rfl) ?_
 refine W.on rfl rfl ?_
 refine W.o (l1D rfl rfl) ?_
 refine rn 4 rfl ?_
 refine ci hF rfl (fun c_6 hF => ?_) (fun c_6 hF => ?_)
 · refine rn 2 rfl ?_
   cases hF
   exact rD (rlt (rlt rl0)) rfl
 refine rn 0 rfl ?_
 refine W.o (lND (s := c34 p) rfl rfl rfl) ?_
 refine rn 1 rfl ?_
 refine W.o (e_faddrD rfl) ?_
 refine W.o (l1D rfl rfl) ?_
 obtain ⟨r_7, g_8, hF⟩ := bind_some hF
 refine df (dfun_rv (es := 1) (c := cI .i64) (g := AV.int .i64) rfl (cI_len .i64) (cI_one .i64) (fun _ => rfl) (fun st L K hs hK => d33 p s at_.From _ g_8 K L st hs hK)) rfl ?_
 refine W.o (e_len (rd_V rfl)) ?_
 refine rn 1 rfl ?_
 exact w21 (.p1 at_ r_7 ((ls r_7).length : Int) 0) _ hF _ _ ⟨rfl, rfl, rfl, rfl, trivial⟩ hs
end Go.Proofs.Ytjbafmnocopofaa
end
section
set_option maxRecDepth 4000
set_option maxHeartbeats 4000000
namespace Go.Proofs.Ytjbafmnocopofaa
open Go AW
attribute [local irreducible] W WD SH XS XLoop DFun XCall XYield
def C15_27 : ACode := .s (.ops [q 4 (.mv (.c (.bool false)))]) .ret
def C15_16 : ACode := .s (.s (.ops [q 11 (.mv 5), q 12 (.mv 0), q 13 (.len 12), q 14 (.binI .lss 11 13)]) (.cond 14 .skip (.exit 0))) (.s (.block 1 (.s (.draw [] 0 0 [q 17 (.mv 0), q 18 (.mv 5), q 19 (.iaddrL 1 17 18), q 20 (.load1 19), q 21 (.mv 1), q 22 (.mv 5), q 23 (.iaddrL 1 21 22), q 24 (.load1 23), q 25 (.binI .neq 20 24)] []) (.cond 25 C15_27 .skip))) (.ops [q 15 (.mv 5), q 16 (.binI .add 15 (ki 1)), q 5 (.mv 16)]))
def C15_32 : ACode := .s (.ops [q 4 (.mv (.c (.bool true)))]) .ret
def C15_1 : ACode := .s (.ops [q 4 (.mv (.c (.bool false)))]) (.s (.s (.ops [q 6 (.mv 0), q 7 (.len 6), q 8 (.mv 1), q 9 (.len 8), q 10 (.binI .neq 7 9)]) (.cond 10 (.s (.ops [q 4 (.mv (.c (.bool false)))]) .ret) .skip)) (.s (.s (.ops [q 5 (.mv (ki 0))]) (.block 0 (.loop C15_16))) C15_32))
def R15 : List RA := [(.tmp 4)]
theorem k15 : compF Try.prog (muL []) 15 = some ⟨26, C15_1, R15⟩ := by kernel_rfl
noncomputable abbrev X15 (r : Bool) : Cx := cD Try.prog noG 26 R15 (AV.bool r)
inductive St15 where
 | p1 (a : Sl Int) (b : Sl Int) (i : Int)
noncomputable def G15 : St15 → Option Bool | .p1 a b i => (if (decide (i < ((ls a).length : Int))) = true then (ix (ls a) i >>= fun v_3 => (ix (ls b) i >>= fun v_5 => (if (v_3 != v_5) = true then (some false) else (G15 (.p1 a b (IntKind.wrap .i64 (i + 1))))))) else (some true)) partial_fixpoint
def M15 (x : St15) (r : Bool) : Prop := match x with | .p1 a b i => ∀ (tm : Fr) (st : Store), Frm tm [(0, slV 1 (AV.int .i64) a), (1, slV 1 (AV.int .i64) b), (5, AV.int .i64 i)] → SH st [] → W (X15 r) [.lp C15_16, .blk 0, .code C15_32] tm st
theorem w15 : ∀ (x : St15) (r : Bool), G15 x = some r → M15 x r := by
 refine G15.partial_correctness (M15) ?_
 intro g ih x r hF
 cases x with
 | p1 a b i =>
  dsimp only at hF
  intro tm st hf hs
  refine en hf ?_
  refine lp ?_
  refine rn 2 rfl ?_
  refine W.o (e_len (rd_V rfl)) ?_
  refine rn 1 rfl ?_
  refine ci hF rfl (fun c_2 hF => ?_) (fun c_2 hF => ?_)
  · refine rn 0 rfl ?_
    have h0 := hs
    refine dr0 ?_
    obtain ⟨v_3, g_4, hF⟩ := bind_some hF
    refine dn 2 rfl ?_
    refine de rfl (e_iaddrL (rd_V rfl) rfl g_4) ?_
    refine de rfl (l1D rfl rfl) ?_
    obtain ⟨v_5, g_6, hF⟩ := bind_some hF
    refine dn 2 rfl ?_
    refine de rfl (e_iaddrL (rd_V rfl) rfl g_6) ?_
    refine de rfl (l1D rfl rfl) ?_
    refine dn 1 rfl ?_
    refine dz ?_
    refine rn 0 rfl ?_
    refine ci hF rfl (fun c_7 hF => ?_) (fun c_7 hF => ?_)
    · refine rn 1 rfl ?_
      cases hF
      exact rD (rlt rl0) rfl
    refine rn 3 rfl ?_
    exact ih _ _ hF _ _ ⟨rfl, rfl, rfl, trivial⟩ hs
  refine rn 1 rfl ?_
  cases hF
  exact rD (rlt rl0) rfl
noncomputable def F15 (a : Sl Int) (b : Sl Int) : Option Bool := (if (((ls a).length : Int) != ((ls b).length : Int)) = true then (some false) else (G15 (.p1 a b 0)))
theorem d15 (a : Sl Int) (b : Sl Int) (r : Bool) (hF : F15 a b = some r) : DFun Try.prog noG 15 [slV 1 (AV.int .i64) a, slV 1 (AV.int .i64) b] (AV.bool r) := by
 unfold F15 at hF
 refine bD k15 rfl ?_
 have hs : SH [] [] := SH.nil
 generalize ([] : Store) = st at hs ⊢
 refine rn 2 rfl ?_
 refine W.o (e_len (rd_V rfl)) ?_
 refine rn 1 rfl ?_
 refine W.o (e_len (rd_V rfl)) ?_
 refine rn 1 rfl ?_
 refine ci hF rfl (fun c_1 hF => ?_) (fun c_1 hF => ?_)
 · refine rn 1 rfl ?_
   cases hF
   exact rD (rlt rl0) rfl
 refine rn 1 rfl ?_
 exact w15 (.p1 a b 0) _ hF _ _ ⟨rfl, rfl, rfl, trivial⟩ hs
def C16_10 : ACode := .s (.s (.ops [q 10 (.mv 4), q 11 (.faddr 2 1), q 12 (.load1 11), q 13 (.len 12), q 14 (.binI .lss 10 13)]) (.cond 14 .skip (.exit 0))) (.s (.block 1 (.draw [] 0 1 [q 17 (.faddr 2 3), q 18 (.load1 17), q 19 (.faddr 2 1), q 20 (.load1 19), q 21 (.mv 4), q 22 (.iaddrL 9 20 21), q 23 (.loadN 9 22), q 24 (.bslice 9 1 true [(.int .u8 0), (.int .u64 0), (.int .u64 0), (.int .u64 0), (.int .u64 0), (.int .i64 0), (.int .i64 0), (.int .i64 0), (.int .i64 0)] [(0, (9, 23))] false)] [q 25 (.app 9 72 18 24), q 26 (.faddr 2 3), q0 (.store 1 26 25)])) (.ops [q 15 (.mv 4), q 16 (.binI .add 15 (ki 1)), q 4 (.mv 16)]))
def C16_20 : ACode := .s (.ops [q 27 (.loadN 3 3), q0 (.store 3 2 27)]) .ret
def C16_1 : ACode := .s (.ops [q 1 (.boxD 3 0), q 2 (.alloc [(.int .i64 0), (.int .i64 0), .nils])]) (.s (.ops [q 5 (.faddr 0 1), q 6 (.load1 5), q 7 (.faddr 1 1), q 8 (.load1 7), q 9 (.build [(.int .i64 0), (.int .i64 0), .nils] [(0, (1, 6)), (1, (1, 8))]), q 3 (.alloc [(.int .i64 0), (.int .i64 0), .nils]), q0 (.store 3 3 9)]) (.s (.s (.ops [q 4 (.mv (ki 0))]) (.block 0 (.loop C16_10))) C16_20))
def R16 : List RA := [(.cellN 2 3)]
theorem k16 : compF Try.prog (muL [1]) 16 = some ⟨28, C16_1, R16⟩ := by kernel_rfl
noncomputable abbrev X16 (r : T34) : Cx := cD Try.prog noG 28 R16 (v34 r) [1]
inductive St16 where
 | p1 (p : T34) (i : Int) (t2_ : T34) (out : T34)
noncomputable def G16 : St16 → Option T34 | .p1 p i t2_ out => (if (decide (i < ((ls p.Code).length : Int))) = true then (ix (ls p.Code) i >>= fun v_8 => (if ((ls out.Code).length + (ls (some ([v_8] : List T52))).length) * 72 ≤ 140737488355328 then (G16 (.p1 p (IntKind.wrap .i64 (i + 1)) t2_ ({ out with Code := sapp out.Code (ls (some ([v_8] : List T52))) } : T34))) else none)) else (some out)) partial_fixpoint
def M16 (x : St16) (r : T34) : Prop := match x with | .p1 p i t2_ out => ∀ (tm : Fr) (st : Store) (io0 : Nat) (io1 : Nat), Frm tm [(1, .dptr (c34 p)), (2, .ptr io0 0), (3, .ptr io1 0), (4, AV.int .i64 i)] → SH st [pt io0 (.cells (c34 t2_)), bx34_2o io1 out] → W (X16 r) [.lp C16_10, .blk 0, .code C16_20] tm st
theorem w16 : ∀ (x : St16) (r : T34), G16 x = some r → M16 x r := by
 refine G16.partial_correctness (M16) ?_
 intro g ih x r hF
 cases x with
 | p1 p i t2_ out =>
  dsimp only at hF
  intro tm st io0 io1 hf hs
  refine en hf ?_
  refine lp ?_
  refine rn 1 rfl ?_
  refine W.o (e_faddrD rfl) ?_
  refine W.o (l1D rfl (by first | rfl | (rw [slV_cells]; rfl))) ?_
  refine W.o (e_len (rd_V rfl)) ?_
  refine rn 1 rfl ?_
  refine ci hF rfl (fun c_4 hF => ?_) (fun c_4 hF => ?_)
  · have hs := (hs.p 2 [1, 0] rfl)
    obtain ⟨j_5, hs⟩ := SH.bx1o hs
    refine rn 0 rfl ?_
    refine drn hs fun s_6 st h0 hs => ?_
    refine de rfl (e_faddr rfl (h0.g 0 rfl)) ?_
    refine de rfl (l1 rfl (h0.g 0 rfl) rfl) ?_
    refine de rfl (e_faddrD rfl) ?_
    refine de rfl (l1D rfl (by first | rfl | (rw [slV_cells]; rfl))) ?_
    obtain ⟨v_8, g_9, hF⟩ := bind_some hF
    refine dn 1 rfl ?_
    refine de rfl (e_iaddrL (rd_V rfl) rfl g_9) ?_
    refine de rfl (lND (s := c52 v_8) rfl rfl rfl) ?_
    refine dbs (f := v52) ([v_8] : List T52) hs 0 rfl rfl rfl rfl rfl rfl fun st hs => ?_
    refine dz ?_
    obtain ⟨g_11, hF⟩ := grd_some hF
    refine ap (ys := ls (some ([v_8] : List T52))) hs 2 rfl rfl (ae_rd (rd_W (o := (some ([v_8] : List T52))) (id := (List.length s_6 + 0)) rfl)) g_11 (fun _ => rfl) fun st b_12 hs => ?_
    refine W.o (e_faddr rfl (hs.g 1 rfl)) ?_
    refine so hs 1 rfl rfl rfl ownV_c rfl (cs' := (cI .i64) (out.Groups) ++ ((cI .i64) (out.Slots) ++ ([ownV 9 v52 (sapp out.Code (ls (some ([v_8] : List T52)))) b_12]))) rfl rfl fun st hs => ?_
    refine rn 3 rfl ?_
    have hs : SH st (bx34_2o io1 ({ out with Code := sapp out.Code (ls (some ([v_8] : List T52))) } : T34) :: _) := SH.bx1c b_12 (hs.p 4 [1, 1, 0, 0] rfl)
    exact ih _ _ hF _ _ io0 io1 ⟨rfl, rfl, rfl, rfl, trivial⟩ (hs.p 3 [2, 0] rfl)
  refine rj 0 2 rfl ?_
  have hs := (hs.p 2 [1, 0] rfl)
  obtain ⟨j_13, hs⟩ := SH.bx1o hs
  refine frzO (off := 2) (es := 9) (g := v52) hs rfl (cs' := c34 out) rfl fun st hs => ?_
  refine rn 0 rfl ?_
  refine W.o (lN (s := c34 out) rfl (hs.g 0 rfl) rfl rfl) ?_
  refine sl hs 1 rfl rfl (LR.whole _ _) (c34_len _) rfl (c34_len _) (c34_one _) rfl fun st hs => ?_
  refine rn 0 rfl ?_
  cases hF
  exact rD (rl_cellN rfl (hs.g 1 rfl) (LR.whole _ _) (c34_len _) rl0) rfl
noncomputable def F16 (p : T34) : Option T34 := (G16 (.p1 p 0 ({ Groups := 0, Slots := 0, Code := none } : T34) ({ Groups := p.Groups, Slots := p.Slots, Code := (none : Sl T52) } : T34)))
theorem d16 (p : T34) (r : T34) (hF : F16 p = some r) : DFun Try.prog noG 16 [v34 p] (v34 r) := by
 unfold F16 at hF
 refine bD k16 rfl ?_
 have hs : SH [] [] := SH.nil
 generalize ([] : Store) = st at hs ⊢
 refine rn 0 rfl ?_
 refine W.o (e_boxD (cs := c34 p) rfl rfl (c34_one _)) ?_
 refine al hs (cs := c34 ({ Groups := 0, Slots := 0, Code := none } : T34)) rfl fun st b_1 hs => ?_
 refine rn 0 rfl ?_
 refine W.o (e_faddrD rfl) ?_
 refine W.o (l1D rfl rfl) ?_
 refine W.o (e_faddrD rfl) ?_
 refine W.o (l1D rfl rfl) ?_
 refine W.o (bR (cs := c34 ({ Groups := p.Groups, Slots := p.Slots, Code := none } : T34)) rfl rfl) ?_
 have hs := hs.ownNil T52
 refine al hs (cs := (cI .i64) (({ Groups := 0, Slots := 0, Code := none } : T34).Groups) ++ ((cI .i64) (({ Groups := 0, Slots := 0, Code := none } : T34).Slots) ++ ([ownV 9 v52 (none : Sl T52) 0]))) rfl fun st b_2 hs => ?_
 refine sr hs 0 rfl rfl rfl (cs' := (cI .i64) (({ Groups := p.Groups, Slots := p.Slots, Code := none } : T34).Groups) ++ ((cI .i64) (({ Groups := p.Groups, Slots := p.Slots, Code := none } : T34).Slots) ++ ([ownV 9 v52 (none : Sl T52) 0]))) rfl rfl fun st hs => ?_
 refine rn 1 rfl ?_
 have hs : SH st (bx34_2o b_2 ({ Groups := p.Groups, Slots := p.Slots, Code := (none : Sl T52) } : T34) :: _) := SH.bx1c 0 (hs.p 3 [0, 0, 0] rfl)
 exact w16 (.p1 p 0 ({ Groups := 0, Slots := 0, Code := none } : T34) ({ Groups := p.Groups, Slots := p.Slots, Code := (none : Sl T52) } : T34)) _ hF _ _ b_1 b_2 ⟨rfl, rfl, rfl, rfl, trivial⟩ (hs.p 2 [1, 0] rfl)
def C18_27 : ACode := .s (.ops [q 4 (.mv (.c (.bool false)))]) .ret
def C18_16 : ACode := .s (.s (.ops [q 27 (.mv 5), q 28 (.faddr 2 2), q 29 (.load1 28), q 30 (.len 29), q 31 (.binI .lss 27 30)]) (.cond 31 .skip (.exit 0))) (.s (.block 1 (.s (.draw [] 0 0 [q 34 (.faddr 2 2), q 35 (.load1 34), q 36 (.mv 5), q 37 (.iaddrL 9 35 36), q 38 (.loadN 9 37), q 39 (.faddr 2 3), q 40 (.load1 39), q 41 (.mv 5), q 42 (.iaddrL 9 40 41), q 43 (.loadN 9 42), q 44 (.eqA true [.i, .i, .i, .i, .i, .i, .i, .i, .i] 38 43)] []) (.cond 44 C18_27 .skip))) (.ops [q 32 (.mv 5), q 33 (.binI .add 32 (ki 1)), q 5 (.mv 33)]))
def C18_32 : ACode := .s (.ops [q 4 (.mv (.c (.bool true)))]) .ret
def C18_1 : ACode := .s (.ops [q 2 (.boxD 3 0), q 3 (.boxD 3 1), q 4 (.mv (.c (.bool false)))]) (.s (.s (.ops [q 6 (.faddr 0 2), q 7 (.load1 6), q 8 (.faddr 0 3), q 9 (.load1 8), q 10 (.binI .neq 7 9), q 11 (.mv 10), (q 12 (.faddr 1 2)).n 11, (q 13 (.load1 12)).n 11, (q 14 (.faddr 1 3)).n 11, (q 15 (.load1 14)).n 11, (q 16 (.binI .neq 13 15)).n 11, q 17 (.pick 11 (.c (.bool true)) 16), q 18 (.mv 17), (q 19 (.faddr 2 2)).n 18, (q 20 (.load1 19)).n 18, (q 21 (.len 20)).n 18, (q 22 (.faddr 2 3)).n 18, (q 23 (.load1 22)).n 18, (q 24 (.len 23)).n 18, (q 25 (.binI .neq 21 24)).n 18, q 26 (.pick 18 (.c (.bool true)) 25)]) (.cond 26 (.s (.ops [q 4 (.mv (.c (.bool false)))]) .ret) .skip)) (.s (.s (.ops [q 5 (.mv (ki 0))]) (.block 0 (.loop C18_16))) C18_32))
def R18 : List RA := [(.tmp 4)]
theorem k18 : compF Try.prog (muL [2, 3]) 18 = some ⟨45, C18_1, R18⟩ := by kernel_rfl
noncomputable abbrev X18 (r : Bool) : Cx := cD Try.prog noG 45 R18 (AV.bool r) [2, 3]
inductive St18 where
 | p1 (a : T34) (b : T34) (i : Int)
noncomputable def G18 : St18 → Option Bool | .p1 a b i => (if (decide (i < ((ls a.Code).length : Int))) = true then (ix (ls a.Code) i >>= fun v_5 => (ix (ls b.Code) i >>= fun v_7 => (if (!decide (v_5 = v_7)) = true then (some false) else (G18 (.p1 a b (IntKind.wrap .i64 (i + 1))))))) else (some true)) partial_fixpoint
def M18 (x : St18) (r : Bool) : Prop := match x with | .p1 a b i => ∀ (tm : Fr) (st : Store), Frm tm [(2, .dptr (c34 a)), (3, .dptr (c34 b)), (5, AV.int .i64 i)] → SH st [] → W (X18 r) [.lp C18_16, .blk 0, .code C18_32] tm st
theorem w18 : ∀ (x : St18) (r : Bool), G18 x = some r → M18 x r := by
 refine G18.partial_correctness (M18) ?_
 intro g ih x r hF
 cases x with
 | p1 a b i =>
  dsimp only at hF
  intro tm st hf hs
  refine en hf ?_
  refine lp ?_
  refine rn 1 rfl ?_
  refine W.o (e_faddrD rfl) ?_
  refine W.o (l1D rfl (by first | rfl | (rw [slV_cells]; rfl))) ?_
  refine W.o (e_len (rd_V rfl)) ?_
  refine rn 1 rfl ?_
  refine ci hF rfl (fun c_4 hF => ?_) (fun c_4 hF => ?_)
  · refine rn 0 rfl ?_
    have h0 := hs
    refine dr0 ?_
    refine de rfl (e_faddrD rfl) ?_
    refine de rfl (l1D rfl (by first | rfl | (rw [slV_cells]; rfl))) ?_
    obtain ⟨v_5, g_6, hF⟩ := bind_some hF
    refine dn 1 rfl ?_
    refine de rfl (e_iaddrL (rd_V rfl) rfl g_6) ?_
    refine de rfl (lND (s := c52 v_5) rfl rfl rfl) ?_
    refine de rfl (e_faddrD rfl) ?_
    refine de rfl (l1D rfl (by first | rfl | (rw [slV_cells]; rfl))) ?_
    obtain ⟨v_7, g_8, hF⟩ := bind_some hF
    refine dn 1 rfl ?_
    refine de rfl (e_iaddrL (rd_V rfl) rfl g_8) ?_
    refine de rfl (lND (s := c52 v_7) rfl rfl rfl) ?_
    refine de rfl (e_neA rfl rfl (c52_eq v_5 v_7)) ?_
    refine dz ?_
    refine rn 0 rfl ?_
    refine ci hF rfl (fun c_9 hF => ?_) (fun c_9 hF => ?_)
    · refine rn 1 rfl ?_
      cases hF
      exact rD (rlt rl0) rfl
    refine rn 3 rfl ?_
    exact ih _ _ hF _ _ ⟨rfl, rfl, rfl, trivial⟩ hs
  refine rn 1 rfl ?_
  cases hF
  exact rD (rlt rl0) rfl
noncomputable def F18 (a : T34) (b : T34) : Option Bool := (if (a.Groups != b.Groups) = true then (some false) else (if (a.Slots != b.Slots) = true then (some false) else (if (((ls a.Code).length : Int) != ((ls b.Code).length : Int)) = true then (some false) else (G18 (.p1 a b 0)))))
theorem d18 (a : T34) (b : T34) (r : Bool) (hF : F18 a b = some r) : DFun Try.prog noG 18 [v34 a, v34 b] (AV.bool r) := by
 unfold F18 at hF
 refine bD k18 rfl ?_
 have hs : SH [] [] := SH.nil
 generalize ([] : Store) = st at hs ⊢
 refine rn 0 rfl ?_
 refine W.o (e_boxD (cs := c34 a) rfl rfl (c34_one _)) ?_
 refine W.o (e_boxD (cs := c34 b) rfl rfl (c34_one _)) ?_
 refine rn 1 rfl ?_
 refine W.o (e_faddrD rfl) ?_
 refine W.o (l1D rfl rfl) ?_
 refine W.o (e_faddrD rfl) ?_
 refine W.o (l1D rfl rfl) ?_
 refine rn 2 rfl ?_
 refine bi hF (fun c_1 hF => ?_) (fun c_1 hF => ?_)
 · refine wfx 11 rfl c_1 ?_
   refine rn 15 rfl ?_
   refine ct rfl rfl ?_
   refine rn 1 rfl ?_
   cases hF
   exact rD (rlt rl0) rfl
 refine wfx 11 rfl c_1 ?_
 refine W.on rfl rfl ?_
 refine W.o (e_faddrD rfl) ?_
 refine W.on rfl rfl ?_
 refine W.o (l1D rfl rfl) ?_
 refine W.on rfl rfl ?_
 refine W.o (e_faddrD rfl) ?_
 refine W.on rfl rfl ?_
 refine W.o (l1D rfl rfl) ?_
 refine rn 3 rfl ?_
 refine bi hF (fun c_2 hF => ?_) (fun c_2 hF => ?_)
 · refine wfx 18 rfl c_2 ?_
   refine rn 8 rfl ?_
   refine ct rfl rfl ?_
   refine rn 1 rfl ?_
   cases hF
   exact rD (rlt rl0) rfl
 refine wfx 18 rfl c_2 ?_
 refine W.on rfl rfl ?_
 refine W.o (e_faddrD rfl) ?_
 refine W.on rfl rfl ?_
 refine W.o (l1D rfl (by first | rfl | (rw [slV_cells]; rfl))) ?_
 refine W.on rfl rfl ?_
 refine W.o (e_len (rd_V rfl)) ?_
 refine W.on rfl rfl ?_
 refine W.o (e_faddrD rfl) ?_
 refine W.on rfl rfl ?_
 refine W.o (l1D rfl (by first | rfl | (rw [slV_cells]; rfl))) ?_
 refine W.on rfl rfl ?_
 refine W.o (e_len (rd_V rfl)) ?_
 refine rn 2 rfl ?_
 refine ci hF rfl (fun c_3 hF => ?_) (fun c_3 hF => ?_)
 · refine rn 1 rfl ?_
   cases hF
   exact rD (rlt rl0) rfl
 refine rn 1 rfl ?_
 exact w18 (.p1 a b 0) _ hF _ _ ⟨rfl, rfl, rfl, trivial⟩ hs
end Go.Proofs.Ytjbafmnocopofaa
end
section
set_option maxRecDepth 4000
set_option maxHeartbeats 4000000
namespace Go.Proofs.Ytjbafmnocopofaa
open Go AW
attribute [local irreducible] W WD SH XS XLoop DFun XCall XYield
def C10t_1 : ACode := .s (.ops [q 1 (.boxD 9 0), q 2 (.alloc [(.int .i64 0), (.int .i64 0), .nils]), q 3 (.mv (ki 0))]) (.s (.s (.ops [q 8 (.loadN 9 1), qc 9 9 [8], q 7 (.mv 9), q 10 (.extract 7 0), q 11 (.extract 7 1), q 4 (.mv 10), q 5 (.mv 11)]) (.s (.ops [q 12 (.mv 5), q 13 (.binI .neq 12 (ki 0))]) (.cond 13 (.s (.ops [q 14 (.build [(.int .i64 0), (.int .i64 0), .nils] []), q 15 (.mv 5), q0 (.store 3 2 14), q 3 (.mv 15)]) .ret) .skip))) (.s (.ops [q 16 (.build [.nils, (.int .i64 0), (.int .i64 0)] []), q 17 (.box 3 16), q 6 (.mv 17)]) (.s (.ops [q 18 (.mv 6), q 19 (.loadN 9 1), qc 20 26 [18, 19]]) (.s (.ops [q 21 (.mv 6), q 22 (.build [(.int .u8 0), (.int .u64 0), (.int .u64 0), (.int .u64 0), (.int .u64 0), (.int .i64 0), (.int .i64 0), (.int .i64 0), (.int .i64 0)] [(0, (1, (ku 12)))]), qc 23 27 [21, 22]]) (.s (.draw [] 0 0 [q 24 (.loadN 9 1), q 26 (.mv 6), q 27 (.nilck 26), q 28 (.faddr 1 27), q 29 (.load1 28), q 30 (.mv 6), q 31 (.nilck 30), q 32 (.faddr 0 31), q 33 (.load1 32), qc 25 28 [24], q 34 (.build [(.int .i64 0), (.int .i64 0), .nils] [(0, (1, 25)), (1, (1, 29)), (2, (1, 33))])] [q0 (.store 3 2 34), q 3 (.mv (ki 0))]) .ret)))))
def R10t : List RA := [(.cellN 2 3), (.tmp 3)]
theorem k10t : compF Try.prog (muL [1]) 10 = some ⟨35, C10t_1, R10t⟩ := by kernel_rfl
noncomputable def F10t (n : T27) : Option (T34 × Int) := (F9 n >>= fun r_2 => (if (r_2.2 != 0) = true then (some (({ Groups := 0, Slots := 0, Code := none } : T34), r_2.2)) else (F26 ({ code := (none : Sl T52), slots := 0, free := 0 } : T65) n >>= fun r_7 => (F27 r_7 ({ Kind := 12, Set := (Arr.rep 4 (0 : Int)), To := 0, Group := 0, Last := 0, Slot := 0 } : T52) >>= fun r_9 => (F28 n >>= fun r_12 => (some (({ Groups := r_12, Slots := r_9.2.slots, Code := r_9.2.code } : T34), 0)))))))
theorem d10t (n : T27) (r : T34 × Int) (hF : F10t n = some r) : ∀ (K : AV → Store → Prop) (Ls : List Asn) (st : Store), SH st Ls → (∀ st id, SH st (rvA c52 id r.1.Code :: Ls) → K (AV.tup [.agg ((cI .i64) (r.1.Groups) ++ ((cI .i64) (r.1.Slots) ++ ([rvV 9 r.1.Code id]))), AV.int .i64 r.2]) st) → XCall Try.prog noG 10 [v27 n] st K := by
 unfold F10t at hF
 intro K Ls st hs hK
 refine bK k10t rfl ?_
 refine rn 0 rfl ?_
 refine W.o (e_boxD (cs := c27 n) rfl (by rw [c27_len]; rfl) (c27_one _)) ?_
 refine al hs (cs := c34 ({ Groups := 0, Slots := 0, Code := none } : T34)) rfl fun st b_1 hs => ?_
 refine rn 1 rfl ?_
 refine W.o (e_loadND rfl (DP.refl _) (c27_len _)) ?_
 obtain ⟨r_2, g_3, hF⟩ := bind_some hF
 refine df (d9 n _ g_3) rfl ?_
 refine rn 7 rfl ?_
 refine ci hF rfl (fun c_4 hF => ?_) (fun c_4 hF => ?_)
 · refine rn 0 rfl ?_
   refine W.o (bR (cs := c34 ({ Groups := 0, Slots := 0, Code := none } : T34)) rfl rfl) ?_
   refine rn 1 rfl ?_
   refine sl hs 0 rfl rfl (LR.whole _ _) (c34_len _) rfl (c34_len _) (c34_one _) rfl fun st hs => ?_
   refine rn 1 rfl ?_
   cases hF
   exact rK (rl_cellN rfl (hs.g 0 rfl) (LR.whole _ _) (c34_len _) (rlt rl0)) (hK _ 0 ((hs.rvNil (α := T52) c52).p 2 [0] rfl)) rfl
 refine rn 0 rfl ?_
 refine W.o (bR (cs := c65 ({ code := none, slots := 0, free := 0 } : T65)) rfl rfl) ?_
 have hs := hs.rvNil (α := T52) c52
 refine bx hs (cs := [rvV 9 (none : Sl T52) 0] ++ ((cI .i64) (({ code := none, slots := 0, free := 0 } : T65).slots) ++ ((cI .i64) (({ code := none, slots := 0, free := 0 } : T65).free)))) rfl rfl fun st b_5 hs => ?_
 refine rn 2 rfl ?_
 refine W.o (e_loadND rfl (DP.refl _) (c27_len _)) ?_
 have hs : SH st (bx65_0r b_5 ({ code := (none : Sl T52), slots := 0, free := 0 } : T65) :: _) := SH.bx1c 0 (hs.p 3 [0, 0, 0] rfl)
 obtain ⟨r_7, g_8, hF⟩ := bind_some hF
 refine cl (ale rfl) (d26 _ _ _ g_8 _ _ b_5 (fun st hs => ?_) _ hs)
 refine rn 1 rfl ?_
 refine W.o (bR (cs := c52 ({ Kind := 12, Set := (Arr.rep 4 (0 : Int)), To := 0, Group := 0, Last := 0, Slot := 0 } : T52)) rfl rfl) ?_
 obtain ⟨r_9, g_10, hF⟩ := bind_some hF
 refine cl (ale rfl) (d27 _ _ _ g_10 _ _ b_5 (fun st hs => ?_) _ hs)
 obtain ⟨j_11, hs⟩ := SH.bx1o hs
 refine rn 0 rfl ?_
 have h0 := hs
 refine dr0 ?_
 refine de rfl (e_loadND rfl (DP.refl _) (c27_len _)) ?_
 refine dn 1 rfl ?_
 refine de rfl (e_nilck rfl (h0.g 0 rfl)) ?_
 refine de rfl (e_faddr rfl (h0.g 0 rfl)) ?_
 refine de rfl (l1 rfl (h0.g 0 rfl) rfl) ?_
 refine dn 1 rfl ?_
 refine de rfl (e_nilck rfl (h0.g 0 rfl)) ?_
 refine de rfl (e_faddr rfl (h0.g 0 rfl)) ?_
 refine de rfl (l1 rfl (h0.g 0 rfl) rfl) ?_
 obtain ⟨r_12, g_13, hF⟩ := bind_some hF
 refine ddf (d28 n _ g_13) rfl ?_
 refine de rfl (e_build (cs := (cI .i64) (({ Groups := r_12, Slots := r_9.2.slots, Code := r_9.2.code } : T34).Groups) ++ ((cI .i64) (({ Groups := r_12, Slots := r_9.2.slots, Code := r_9.2.code } : T34).Slots) ++ ([rvV 9 r_9.2.code j_11]))) (pk_cons (cs := cI .i64 r_12) rfl rfl ((cI_len .i64) _) (by decide) (pk_cons (cs := cI .i64 r_9.2.slots) rfl rfl ((cI_len .i64) _) (by decide) (pk_cons (cs := [rvV 9 r_9.2.code j_11]) rfl rvV_c.1 rfl (by decide) pk_nil))) rfl) ?_
 refine dz ?_
 refine sl hs 2 rfl rfl (LR.whole _ ((cI .i64) (({ Groups := r_12, Slots := r_9.2.slots, Code := r_9.2.code } : T34).Groups) ++ ((cI .i64) (({ Groups := r_12, Slots := r_9.2.slots, Code := r_9.2.code } : T34).Slots) ++ ([rvV 9 r_9.2.code j_11])))) (c34_len _) rfl rfl (one_app ((cI_one .i64) _) (one_app ((cI_one .i64) _) (by rw [List.all_cons, rvV_c.2]; rfl))) rfl fun st hs => ?_
 refine rn 1 rfl ?_
 cases hF
 exact rK (rl_cellN rfl (hs.g 2 rfl) (LR.whole _ _) rfl (rlt rl0)) (hK _ _ (hs.p 3 [1] rfl)) rfl
def C17t_1 : ACode := .s (.ops [q 3 (.boxD 3 0), q 6 (.mv (.c .nils)), q 7 (.mv (ki 0))]) (.s (.s (.ops [q 9 (.loadN 3 3), qc 10 32 [9], q 8 (.mv 10)]) (.s (.ops [q 11 (.mv 8), q 12 (.binI .neq 11 (ki 0))]) (.cond 12 (.s (.ops [q 13 (.mv 8), q 6 (.mv (.c .nils)), q 7 (.mv 13)]) .ret) .skip))) (.s (.s (.ops [q 14 (.mv 2), q 15 (.binI .lss 14 (ki 0)), q 16 (.mv 15), (q 17 (.mv 2)).n 16, (q 18 (.mv 1)).n 16, (q 19 (.lenS 18)).n 16, (q 20 (.binI .gtr 17 19)).n 16, q 21 (.pick 16 (.c (.bool true)) 20)]) (.cond 21 (.s (.ops [q 6 (.mv (.c .nils)), q 7 (.mv (ki 2))]) .ret) .skip)) (.s (.ops [q 22 (.loadN 3 3), q 23 (.mv 1), q 24 (.mv 2), qc 25 33 [22, 23, 24], q 6 (.mv 25), q 7 (.mv (ki 0))]) .ret)))
def R17t : List RA := [(.tmp 6), (.tmp 7)]
theorem k17t : compF Try.prog (muL [3]) 17 = some ⟨26, C17t_1, R17t⟩ := by kernel_rfl
noncomputable def F17t (p : T34) (s : Str) (from_ : Int) : Option (Sl Int × Int) := (F32 p >>= fun r_1 => (if (r_1 != 0) = true then (some (none, r_1)) else (if (decide (from_ < 0)) = true then (some (none, 2)) else (if (decide (from_ > ((s).length : Int))) = true then (some (none, 2)) else (F33 p s from_ >>= fun r_6 => (some (r_6, 0)))))))
theorem d17t (p : T34) (s : Str) (from_ : Int) (r : Sl Int × Int) (hF : F17t p s from_ = some r) : ∀ (K : AV → Store → Prop) (Ls : List Asn) (st : Store), SH st Ls → (∀ st id, SH st (rvA (cI .i64) id r.1 :: Ls) → K (AV.tup [rvV 1 r.1 id, AV.int .i64 r.2]) st) → XCall Try.prog noG 17 [v34 p, AV.str s, AV.int .i64 from_] st K := by
 unfold F17t at hF
 intro K Ls st hs hK
 refine bK k17t rfl ?_
 refine rn 0 rfl ?_
 refine W.o (e_boxD (cs := c34 p) rfl rfl (c34_one _)) ?_
 refine rn 2 rfl ?_
 refine W.o (lND (s := c34 p) rfl rfl rfl) ?_
 obtain ⟨r_1, g_2, hF⟩ := bind_some hF
 refine df (d32 p _ g_2) rfl ?_
 refine rn 3 rfl ?_
 refine ci hF rfl (fun c_3 hF => ?_) (fun c_3 hF => ?_)
 · refine rn 3 rfl ?_
   cases hF
   exact rK (rlt (rlt rl0)) (hK _ 0 ((hs.rvNil (α := Int) (cI .i64)).p 1 [0] rfl)) rfl
 refine rn 3 rfl ?_
 refine bi hF (fun c_4 hF => ?_) (fun c_4 hF => ?_)
 · refine wfx 16 rfl c_4 ?_
   refine rn 5 rfl ?_
   refine ct rfl rfl ?_
   refine rn 2 rfl ?_
   cases hF
   exact rK (rlt (rlt rl0)) (hK _ 0 ((hs.rvNil (α := Int) (cI .i64)).p 1 [0] rfl)) rfl
 refine wfx 16 rfl c_4 ?_
 refine rn 5 rfl ?_
 refine ci hF rfl (fun c_5 hF => ?_) (fun c_5 hF => ?_)
 · refine rn 2 rfl ?_
   cases hF
   exact rK (rlt (rlt rl0)) (hK _ 0 ((hs.rvNil (α := Int) (cI .i64)).p 1 [0] rfl)) rfl
 refine rn 0 rfl ?_
 refine W.o (lND (s := c34 p) rfl rfl rfl) ?_
 obtain ⟨r_6, g_7, hF⟩ := bind_some hF
 refine rn 2 rfl ?_
 refine cl (ale rfl) (d33 _ _ _ _ g_7 _ _ _ hs fun st b_8 hs => ?_)
 refine rn 2 rfl ?_
 cases hF
 exact rK (rlt (rlt rl0)) (hK _ _ (hs.p 1 [0] rfl)) rfl
end Go.Proofs.Ytjbafmnocopofaa
end
section
set_option maxRecDepth 4000
set_option maxHeartbeats 4000000
namespace Go.Proofs.Ytjbafmnocopofaa
open Go AW
attribute [local irreducible] W WD SH XS XLoop DFun XCall XYield
def C5_33 : ACode := .s (.ops [q 4 (.mv (.c (.bool false)))]) .ret
def C5_44 : ACode := .s (.s (.ops [q 48 (.mv 13), q 49 (.mv 11), q 50 (.len 49), q 51 (.binI .lss 48 50)]) (.cond 51 .skip (.exit 0))) (.s (.block 1 (.ops [q 54 (.mv 12), q 55 (.mv 11), q 56 (.mv 13), q 57 (.iaddrL 1 55 56), q 58 (.load1 57), q 59 (.bslice 1 1 false [(.int .i64 0)] [(0, (1, 58))] false), q 60 (.app 1 8 54 59), q 12 (.mv 60)])) (.ops [q 52 (.mv 13), q 53 (.binI .add 52 (ki 1)), q 13 (.mv 53)]))
def C5_40 : ACode := .s (.ops [q 13 (.mv (ki 0))]) (.block 0 (.loop C5_44))
def C5_59 : ACode := .s (.s (.ops [q 61 (.mv 14), q 62 (.faddr 2 5), q 63 (.load1 62), q 64 (.len 63), q 65 (.binI .lss 61 64)]) (.cond 65 .skip (.exit 2))) (.s (.block 3 (.ops [q 68 (.faddr 2 5), q 69 (.load1 68), q 70 (.mv 14), q 71 (.build [(.int .u8 0), (.int .u64 0), (.int .u64 0), (.int .u64 0), (.int .u64 0), (.int .i64 0), (.int .i64 0), (.int .i64 0), (.int .i64 0)] []), q 72 (.iaddrL 9 69 70), q0 (.store 9 72 71)])) (.ops [q 66 (.mv 14), q 67 (.binI .add 66 (ki 1)), q 14 (.mv 67)]))
def C5_74 : ACode := .s (.s (.ops [q 73 (.mv 15), q 74 (.mv 10), q 75 (.len 74), q 76 (.binI .lss 73 75)]) (.cond 76 .skip (.exit 4))) (.s (.block 5 (.ops [q 79 (.mv 10), q 80 (.mv 15), q 81 (.iaddrL 1 79 80), q0 (.store 1 81 (ki (-1)))])) (.ops [q 77 (.mv 15), q 78 (.binI .add 77 (ki 1)), q 15 (.mv 78)]))
def C5_84 : ACode := .s (.ops [q 82 (.faddr 2 5), q 83 (.load1 82), q 84 (.build [(.int .u8 0), (.int .u64 0), (.int .u64 0), (.int .u64 0), (.int .u64 0), (.int .i64 0), (.int .i64 0), (.int .i64 0), (.int .i64 0)] []), q 85 (.build [(.int .u8 0), (.int .u64 0), (.int .u64 0), (.int .u64 0), (.int .u64 0), (.int .i64 0), (.int .i64 0), (.int .i64 0), (.int .i64 0)] []), q 86 (.bslice 9 2 true [(.int .u8 0), (.int .u64 0), (.int .u64 0), (.int .u64 0), (.int .u64 0), (.int .i64 0), (.int .i64 0), (.int .i64 0), (.int .i64 0)] [(0, (9, 84)), (9, (9, 85))] false), q 87 (.appR 9 72 83 86), q 88 (.faddr 2 5), q0 (.store 1 88 87)]) (.s (.ops [q 89 (.mv 10), q 90 (.bslice 1 2 false [(.int .i64 0)] [(0, (1, (ki (-2)))), (1, (1, (ki (-2))))] false), q 91 (.appR 1 8 89 90), q 10 (.mv 91)]) (.s (.ops [q 92 (.loadN 3 7), q 93 (.loadN 3 9), qc 94 18 [92, 93], q 95 (.mv 94), (q 96 (.mv 11)).y 95, (q 97 (.mv 12)).y 95, (qc 98 15 [96, 97]).y 95, q 99 (.pick 95 98 (.c (.bool false))), q 100 (.mv 99), (q 101 (.mv 10)).y 100, (q 102 (.mv 10)).y 100, (q 103 (.len 102)).y 100, (q 104 (.binI .sub 103 (ki 1))).y 100, (q 105 (.iaddrL 1 101 104)).y 100, (q 106 (.load1 105)).y 100, (q 107 (.binI .eql 106 (ki (-2)))).y 100, q 108 (.pick 100 107 (.c (.bool false))), q 4 (.mv 108)]) .ret))
def C5_69 : ACode := .s (.s (.ops [q 15 (.mv (ki 0))]) (.block 4 (.loop C5_74))) C5_84
def C5_54 : ACode := .s (.s (.ops [q 14 (.mv (ki 0))]) (.block 2 (.loop C5_59))) C5_69
def C5_1 : ACode := .s (.ops [q 2 (.boxD 9 0), q 4 (.mv (.c (.bool false)))]) (.s (.s (.ops [qc 16 8 [], q 17 (.un .not 16)]) (.cond 17 (.s (.ops [q 4 (.mv (.c (.bool false)))]) .ret) .skip)) (.s (.ops [q 19 (.loadN 9 2), qc 20 10 [19], q 18 (.mv 20), q 21 (.extract 18 0), q 22 (.extract 18 1), q 5 (.alloc [(.int .i64 0), (.int .i64 0), .nils]), q0 (.store 3 5 21), q 6 (.mv 22)]) (.s (.ops [q 24 (.loadN 9 2), qc 25 10 [24], q 23 (.mv 25), q 26 (.extract 23 0), q 27 (.extract 23 1), q 7 (.alloc [(.int .i64 0), (.int .i64 0), .nils]), q0 (.store 3 7 26), q 8 (.mv 27)]) (.s (.s (.ops [q 28 (.mv 6), q 29 (.mv 8), q 30 (.binI .neq 28 29)]) (.cond 30 (.s (.ops [q 4 (.mv (.c (.bool false)))]) .ret) .skip)) (.s (.ops [q 31 (.loadN 3 7), qc 32 16 [31], q 9 (.alloc [(.int .i64 0), (.int .i64 0), .nils]), q0 (.store 3 9 32)]) (.s (.ops [q 34 (.loadN 3 7), q 35 (.mv 1), qc 36 17 [34, 35, (ki 0)], q 33 (.mv 36), q 37 (.extract 33 0), q 38 (.extract 33 1), q 10 (.mv 37), q 6 (.mv 38)]) (.s (.ops [q 40 (.loadN 3 7), q 41 (.mv 1), qc 42 17 [40, 41, (ki 0)], q 39 (.mv 42), q 43 (.extract 39 0), q 44 (.extract 39 1), q 11 (.mv 43), q 8 (.mv 44)]) (.s (.s (.ops [q 45 (.mv 6), q 46 (.mv 8), q 47 (.binI .neq 45 46)]) (.cond 47 C5_33 .skip)) (.s (.ops [q 12 (.mv (.c .nils))]) (.s C5_40 C5_54))))))))))
def R5 : List RA := [(.tmp 4)]
theorem k5 : compF Try.prog (muL [2, 87, 91]) 5 = some ⟨109, C5_1, R5⟩ := by kernel_rfl
noncomputable abbrev X5 (r : Bool) : Cx := cD Try.prog noG 109 R5 (AV.bool r) [2, 87, 91]
inductive St5 where
 | p1 (m : Sl Int) (i : Int) (p : T34) (q_ : T34) (was : T34) (l : Sl Int) (kept : Sl Int)
 | p2 (m : Sl Int) (i : Int) (p : T34) (q_ : T34) (was : T34) (l : Sl Int) (kept : Sl Int)
 | p3 (m : Sl Int) (i : Int) (p : T34) (q_ : T34) (was : T34) (l : Sl Int) (kept : Sl Int)
noncomputable def G5 : St5 → Option Bool | .p1 m i p q_ was l kept => (if (decide (i < ((ls m).length : Int))) = true then (ix (ls m) i >>= fun v_24 => (if ((ls kept).length + (ls (some ([v_24] : List Int))).length) * 8 ≤ 140737488355328 then (G5 (.p1 m (IntKind.wrap .i64 (i + 1)) p q_ was l (sapp kept (ls (some ([v_24] : List Int)))))) else none)) else (G5 (.p2 m 0 p q_ was l kept))) | .p2 m i p q_ was l kept => (if (decide (i < ((ls p.Code).length : Int))) = true then (ix (ls p.Code) i >>= fun v_31 => (G5 (.p2 m (IntKind.wrap .i64 (i + 1)) ({ p with Code := (vset p.Code i ({ Kind := 0, Set := (Arr.rep 4 (0 : Int)), To := 0, Group := 0, Last := 0, Slot := 0 } : T52)) } : T34) q_ was l kept))) else (G5 (.p3 m 0 p q_ was l kept))) | .p3 m i p q_ was l kept => (if (decide (i < ((ls l).length : Int))) = true then (ix (ls l) i >>= fun v_34 => (G5 (.p3 m (IntKind.wrap .i64 (i + 1)) p q_ was (vset l i (-1)) kept))) else (if ((ls p.Code).length + (ls (some ([({ Kind := 0, Set := (Arr.rep 4 (0 : Int)), To := 0, Group := 0, Last := 0, Slot := 0 } : T52), ({ Kind := 0, Set := (Arr.rep 4 (0 : Int)), To := 0, Group := 0, Last := 0, Slot := 0 } : T52)] : List T52))).length) * 72 ≤ 140737488355328 then (if ((ls l).length + (ls (some ([(-2), (-2)] : List Int))).length) * 8 ≤ 140737488355328 then (F18 q_ was >>= fun r_43 => (if r_43 = true then (F15 m kept >>= fun r_46 => (if r_46 = true then (ix (ls (sapp l (ls (some ([(-2), (-2)] : List Int))))) (IntKind.wrap .i64 (((ls (sapp l (ls (some ([(-2), (-2)] : List Int))))).length : Int) - 1)) >>= fun v_49 => (some (v_49 == (-2)))) else (some false))) else (some false))) else none) else none)) partial_fixpoint
def M5 (x : St5) (r : Bool) : Prop := match x with | .p1 m i p q_ was l kept => ∀ (tm : Fr) (st : Store) (io0 : Nat) (io1 : Nat) (io2 : Nat) (io3 : Nat) (io4 : Nat), Frm tm [(5, .ptr io0 0), (7, .ptr io1 0), (9, .ptr io2 0), (10, rvV 1 l io3), (11, slV 1 (AV.int .i64) m), (12, ownV 1 (AV.int .i64) kept io4), (13, AV.int .i64 i)] → SH st [bx34_2r io0 p, pt io1 (.cells (c34 q_)), pt io2 (.cells (c34 was)), rvA (cI .i64) io3 l, ownA io4 kept] → W (X5 r) [.lp C5_44, .blk 0, .code C5_54] tm st | .p2 m i p q_ was l kept => ∀ (tm : Fr) (st : Store) (io0 : Nat) (io1 : Nat) (io2 : Nat) (io3 : Nat) (io4 : Nat), Frm tm [(5, .ptr io0 0), (7, .ptr io1 0), (9, .ptr io2 0), (10, rvV 1 l io3), (11, slV 1 (AV.int .i64) m), (12, ownV 1 (AV.int .i64) kept io4), (14, AV.int .i64 i)] → SH st [bx34_2r io0 p, pt io1 (.cells (c34 q_)), pt io2 (.cells (c34 was)), rvA (cI .i64) io3 l, ownA io4 kept] → W (X5 r) [.lp C5_59, .blk 2, .code C5_69] tm st | .p3 m i p q_ was l kept => ∀ (tm : Fr) (st : Store) (io0 : Nat) (io1 : Nat) (io2 : Nat) (io3 : Nat) (io4 : Nat), Frm tm [(5, .ptr io0 0), (7, .ptr io1 0), (9, .ptr io2 0), (10, rvV 1 l io3), (11, slV 1 (AV.int .i64) m), (12, ownV 1 (AV.int .i64) kept io4), (15, AV.int .i64 i)] → SH st [bx34_2r io0 p, pt io1 (.cells (c34 q_)), pt io2 (.cells (c34 was)), rvA (cI .i64) io3 l, ownA io4 kept] → W (X5 r) [.lp C5_74, .blk 4, .code C5_84] tm st
theorem w5 : ∀ (x : St5) (r : Bool), G5 x = some r → M5 x r := by
 refine G5.partial_correctness (M5) ?_
 intro g ih x r hF
 cases x with
 | p1 m i p q_ was l kept =>
  dsimp only at hF
  intro tm st io0 io1 io2 io3 io4 hf hs
  refine en hf ?_
  refine lp ?_
  refine rn 2 rfl ?_
  refine W.o (e_len (rd_V rfl)) ?_
  refine rn 1 rfl ?_
  refine ci hF rfl (fun c_23 hF => ?_) (fun c_23 hF => ?_)
  · obtain ⟨v_24, g_25, hF⟩ := bind_some hF
    refine rn 3 rfl ?_
    refine W.o (e_iaddrL (rd_V rfl) rfl g_25) ?_
    refine W.o (l1D rfl rfl) ?_
    refine bs (f := AV.int .i64) ([v_24] : List Int) hs rfl rfl rfl rfl fun st b_26 hs => ?_
    obtain ⟨g_27, hF⟩ := grd_some hF
    refine ap (ys := ls (some ([v_24] : List Int))) hs 5 rfl rfl (ae_rd (rd_W (o := (some ([v_24] : List Int))) (id := b_26) rfl)) g_27 (fun _ => rfl) fun st b_28 hs => ?_
    refine rn 4 rfl ?_
    exact ih _ _ hF _ _ io0 io1 io2 io3 b_28 ⟨rfl, rfl, rfl, rfl, rfl, rfl, rfl, trivial⟩ (hs.p 6 [1, 1, 1, 1, 1] rfl)
  refine rn 1 rfl ?_
  exact ih _ _ hF _ _ io0 io1 io2 io3 io4 ⟨rfl, rfl, rfl, rfl, rfl, rfl, rfl, trivial⟩ hs
 | p2 m i p q_ was l kept =>
  dsimp only at hF
  intro tm st io0 io1 io2 io3 io4 hf hs
  refine en hf ?_
  refine lp ?_
  obtain ⟨j_29, hs⟩ := SH.bx1o hs
  refine rn 1 rfl ?_
  refine W.o (e_faddr rfl (hs.g 0 rfl)) ?_
  refine W.o (l1 rfl (hs.g 0 rfl) rfl) ?_
  refine W.o (e_lenV hs 1 rfl rfl) ?_
  refine rn 1 rfl ?_
  refine ci hF rfl (fun c_30 hF => ?_) (fun c_30 hF => ?_)
  · refine rn 0 rfl ?_
    refine W.o (e_faddr rfl (hs.g 0 rfl)) ?_
    refine W.o (l1 rfl (hs.g 0 rfl) rfl) ?_
    refine rn 1 rfl ?_
    refine W.o (bR (cs := c52 ({ Kind := 0, Set := (Arr.rep 4 (0 : Int)), To := 0, Group := 0, Last := 0, Slot := 0 } : T52)) rfl rfl) ?_
    obtain ⟨v_31, g_32, hF⟩ := bind_some hF
    refine W.o (e_iaddrV hs 1 rfl rfl rfl g_32) ?_
    refine slv hs 1 rfl rfl g_32 rfl (LR.cast (LR.comp (LR.whole _ _) (lrV_set c52_len g_32 ({ Kind := 0, Set := (Arr.rep 4 (0 : Int)), To := 0, Group := 0, Last := 0, Slot := 0 } : T52))) (by omega)) (c52_len _) rfl (c52_len _) (c52_one _) rfl fun st hs => ?_
    have hs := hs.cong 0 rfl (cs' := (cI .i64) (p.Groups) ++ ((cI .i64) (p.Slots) ++ ([rvV 9 (vset p.Code i ({ Kind := 0, Set := (Arr.rep 4 (0 : Int)), To := 0, Group := 0, Last := 0, Slot := 0 } : T52)) j_29]))) (by simp only [rvV_vset]) rfl
    refine rn 3 rfl ?_
    have hs : SH st (bx34_2r io0 ({ p with Code := (vset p.Code i ({ Kind := 0, Set := (Arr.rep 4 (0 : Int)), To := 0, Group := 0, Last := 0, Slot := 0 } : T52)) } : T34) :: _) := SH.bx1c j_29 (hs.p 6 [0, 0, 0, 0, 0, 0] rfl)
    exact ih _ _ hF _ _ io0 io1 io2 io3 io4 ⟨rfl, rfl, rfl, rfl, rfl, rfl, rfl, trivial⟩ hs
  refine rn 1 rfl ?_
  have hs : SH st (bx34_2r io0 p :: _) := SH.bx1c j_29 (hs.p 6 [0, 0, 0, 0, 0, 0] rfl)
  exact ih _ _ hF _ _ io0 io1 io2 io3 io4 ⟨rfl, rfl, rfl, rfl, rfl, rfl, rfl, trivial⟩ hs
 | p3 m i p q_ was l kept =>
  dsimp only at hF
  intro tm st io0 io1 io2 io3 io4 hf hs
  refine en hf ?_
  refine lp ?_
  refine rn 2 rfl ?_
  refine W.o (e_lenV hs 3 rfl rfl) ?_
  refine rn 1 rfl ?_
  refine ci hF rfl (fun c_33 hF => ?_) (fun c_33 hF => ?_)
  · obtain ⟨v_34, g_35, hF⟩ := bind_some hF
    refine rn 2 rfl ?_
    refine W.o (e_iaddrV hs 3 rfl rfl rfl g_35) ?_
    refine slv hs 3 rfl rfl g_35 rfl (LR.cast (LR.comp (LR.whole _ _) (lrV_set (cI_len .i64) g_35 (-1))) (by omega)) ((cI_len .i64) _) rfl ((cI_len .i64) _) ((cI_one .i64) _) rfl fun st hs => ?_
    refine rn 3 rfl ?_
    exact ih _ _ hF _ _ io0 io1 io2 io3 io4 ⟨rfl, rfl, rfl, (show rvV 1 l io3 = rvV 1 (vset l i (-1)) io3 by simp only [rvV_vset]), rfl, rfl, rfl, trivial⟩ hs
  obtain ⟨j_36, hs⟩ := SH.bx1o hs
  refine rn 0 rfl ?_
  refine W.o (e_faddr rfl (hs.g 0 rfl)) ?_
  refine W.o (l1 rfl (hs.g 0 rfl) rfl) ?_
  refine W.o (bR (cs := c52 ({ Kind := 0, Set := (Arr.rep 4 (0 : Int)), To := 0, Group := 0, Last := 0, Slot := 0 } : T52)) rfl rfl) ?_
  refine W.o (bR (cs := c52 ({ Kind := 0, Set := (Arr.rep 4 (0 : Int)), To := 0, Group := 0, Last := 0, Slot := 0 } : T52)) rfl rfl) ?_
  refine bs (f := v52) ([({ Kind := 0, Set := (Arr.rep 4 (0 : Int)), To := 0, Group := 0, Last := 0, Slot := 0 } : T52), ({ Kind := 0, Set := (Arr.rep 4 (0 : Int)), To := 0, Group := 0, Last := 0, Slot := 0 } : T52)] : List T52) hs rfl rfl rfl rfl fun st b_37 hs => ?_
  obtain ⟨g_38, hF⟩ := grd_some hF
  refine apV (f := v52) (c := c52) (ys := ls (some ([({ Kind := 0, Set := (Arr.rep 4 (0 : Int)), To := 0, Group := 0, Last := 0, Slot := 0 } : T52), ({ Kind := 0, Set := (Arr.rep 4 (0 : Int)), To := 0, Group := 0, Last := 0, Slot := 0 } : T52)] : List T52))) hs 2 rfl rfl (ae_rd (rd_W (o := (some ([({ Kind := 0, Set := (Arr.rep 4 (0 : Int)), To := 0, Group := 0, Last := 0, Slot := 0 } : T52), ({ Kind := 0, Set := (Arr.rep 4 (0 : Int)), To := 0, Group := 0, Last := 0, Slot := 0 } : T52)] : List T52))) (id := b_37) rfl)) g_38 c52_len (fun _ => rfl) (fun _ => rfl) fun st b_39 hs => ?_
  refine W.o (e_faddr rfl (hs.g 1 rfl)) ?_
  refine so hs 1 rfl rfl rfl (rvV_c (es := 9) (o := sapp p.Code (ls (some ([({ Kind := 0, Set := (Arr.rep 4 (0 : Int)), To := 0, Group := 0, Last := 0, Slot := 0 } : T52), ({ Kind := 0, Set := (Arr.rep 4 (0 : Int)), To := 0, Group := 0, Last := 0, Slot := 0 } : T52)] : List T52)))) (id := b_39)) rfl (cs' := (cI .i64) (p.Groups) ++ ((cI .i64) (p.Slots) ++ ([rvV 9 (sapp p.Code (ls (some ([({ Kind := 0, Set := (Arr.rep 4 (0 : Int)), To := 0, Group := 0, Last := 0, Slot := 0 } : T52), ({ Kind := 0, Set := (Arr.rep 4 (0 : Int)), To := 0, Group := 0, Last := 0, Slot := 0 } : T52)] : List T52)))) b_39]))) rfl rfl fun st hs => ?_
  refine rn 1 rfl ?_
  refine bs (f := AV.int .i64) ([(-2), (-2)] : List Int) hs rfl rfl rfl rfl fun st b_40 hs => ?_
  obtain ⟨g_41, hF⟩ := grd_some hF
  refine apV (f := AV.int .i64) (c := cI .i64) (ys := ls (some ([(-2), (-2)] : List Int))) hs 6 rfl rfl (ae_rd (rd_W (o := (some ([(-2), (-2)] : List Int))) (id := b_40) rfl)) g_41 (cI_len .i64) (fun _ => rfl) (fun _ => rfl) fun st b_42 hs => ?_
  refine rn 1 rfl ?_
  refine W.o (lN (s := c34 q_) rfl (hs.g 4 rfl) rfl rfl) ?_
  refine W.o (lN (s := c34 was) rfl (hs.g 5 rfl) rfl rfl) ?_
  obtain ⟨r_43, g_44, hF⟩ := bind_some hF
  refine df (d18 _ _ _ g_44) rfl ?_
  refine rn 1 rfl ?_
  refine bi hF (fun c_45 hF => ?_) (fun c_45 hF => ?_)
  · refine wfx 95 rfl c_45 ?_
    obtain ⟨r_46, g_47, hF⟩ := bind_some hF
    refine rn 2 rfl ?_
    refine W.on rfl rfl ?_
    refine df' (d15 _ _ _ g_47) (ds := [slV 1 (AV.int .i64) m, slV 1 (AV.int .i64) kept]) (dsl_cons (dsv (v := slV 1 (AV.int .i64) m)) (dsl_cons (dsw (es := 1) (f := AV.int .i64) (o := kept) (id := io4)) dsl_nil)) ?_
    refine rn 2 rfl ?_
    refine bi hF (fun c_48 hF => ?_) (fun c_48 hF => ?_)
    · refine wfx 100 rfl c_48 ?_
      refine rn 2 rfl ?_
      refine W.on rfl rfl ?_
      refine W.o (e_lenV hs 6 rfl rfl) ?_
      obtain ⟨v_49, g_50, hF⟩ := bind_some hF
      refine rn 1 rfl ?_
      refine W.on rfl rfl ?_
      refine W.o (e_iaddrV hs 6 rfl rfl rfl g_50) ?_
      refine W.on rfl rfl ?_
      refine W.o (e_load1 rfl (SH.gv hs 6 rfl g_50) (LR.cast (LR.comp (LR.whole _ _) (lrV_get (cI_len .i64) g_50)) (by omega))) ?_
      refine rn 3 rfl ?_
      cases hF
      exact rD (rlt rl0) rfl
    refine wfx 100 rfl c_48 ?_
    refine rn 9 rfl ?_
    cases hF
    exact rD (rlt rl0) rfl
  refine wfx 95 rfl c_45 ?_
  refine rn 14 rfl ?_
  cases hF
  exact rD (rlt rl0) rfl
noncomputable def F5 (n : T27) (s : Str) : Option Bool := (F8 >>= fun r_1 => (if (!r_1) = true then (some false) else (F10t n >>= fun r_4 => (F10 n >>= fun r_9 => (if (r_4.2 != r_9.2) = true then (some false) else (F16 r_9.1 >>= fun r_13 => (F17t r_9.1 s 0 >>= fun r_16 => (F17 r_9.1 s 0 >>= fun r_19 => (if (r_16.2 != r_19.2) = true then (some false) else (G5 (.p1 r_19.1 0 r_4.1 r_9.1 r_13 r_16.1 none)))))))))))
theorem d5 (n : T27) (s : Str) (r : Bool) (hF : F5 n s = some r) : DFun Try.prog noG 5 [v27 n, AV.str s] (AV.bool r) := by
 unfold F5 at hF
 refine bD k5 rfl ?_
 have hs : SH [] [] := SH.nil
 generalize ([] : Store) = st at hs ⊢
 refine rn 0 rfl ?_
 refine W.o (e_boxD (cs := c27 n) rfl (by rw [c27_len]; rfl) (c27_one _)) ?_
 obtain ⟨r_1, g_2, hF⟩ := bind_some hF
 refine rn 1 rfl ?_
 refine df (d8 _ g_2) rfl ?_
 refine rn 1 rfl ?_
 refine ci hF rfl (fun c_3 hF => ?_) (fun c_3 hF => ?_)
 · refine rn 1 rfl ?_
   cases hF
   exact rD (rlt rl0) rfl
 refine rn 0 rfl ?_
 refine W.o (e_loadND rfl (DP.refl _) (c27_len _)) ?_
 obtain ⟨r_4, g_5, hF⟩ := bind_some hF
 refine cl (ale rfl) (d10t n _ g_5 _ _ _ hs fun st b_6 hs => ?_)
 have hs := hs.rvNil (α := T52) c52
 refine rn 3 rfl ?_
 refine al hs (cs := (cI .i64) (({ Groups := 0, Slots := 0, Code := none } : T34).Groups) ++ ((cI .i64) (({ Groups := 0, Slots := 0, Code := none } : T34).Slots) ++ ([rvV 9 (none : Sl T52) 0]))) rfl fun st b_7 hs => ?_
 refine sl hs 0 rfl rfl (LR.whole _ ((cI .i64) (r_4.1.Groups) ++ ((cI .i64) (r_4.1.Slots) ++ ([rvV 9 r_4.1.Code b_6])))) rfl rfl rfl (one_app ((cI_one .i64) _) (one_app ((cI_one .i64) _) (by rw [List.all_cons, rvV_c.2]; rfl))) rfl fun st hs => ?_
 refine rn 1 rfl ?_
 refine W.o (e_loadND rfl (DP.refl _) (c27_len _)) ?_
 obtain ⟨r_9, g_10, hF⟩ := bind_some hF
 refine df (d10 n _ g_10) rfl ?_
 refine rn 3 rfl ?_
 refine al hs (cs := c34 ({ Groups := 0, Slots := 0, Code := none } : T34)) rfl fun st b_11 hs => ?_
 refine sl hs 0 rfl rfl (LR.whole _ _) (c34_len _) rfl (c34_len _) (c34_one _) rfl fun st hs => ?_
 refine rn 4 rfl ?_
 refine ci hF rfl (fun c_12 hF => ?_) (fun c_12 hF => ?_)
 · refine rn 1 rfl ?_
   cases hF
   exact rD (rlt rl0) rfl
 refine rn 0 rfl ?_
 refine W.o (lN (s := c34 r_9.1) rfl (hs.g 0 rfl) rfl rfl) ?_
 obtain ⟨r_13, g_14, hF⟩ := bind_some hF
 refine df (d16 _ _ g_14) rfl ?_
 refine al hs (cs := c34 ({ Groups := 0, Slots := 0, Code := none } : T34)) rfl fun st b_15 hs => ?_
 refine sl hs 0 rfl rfl (LR.whole _ _) (c34_len _) rfl (c34_len _) (c34_one _) rfl fun st hs => ?_
 refine rn 0 rfl ?_
 refine W.o (lN (s := c34 r_9.1) rfl (hs.g 1 rfl) rfl rfl) ?_
 obtain ⟨r_16, g_17, hF⟩ := bind_some hF
 refine rn 1 rfl ?_
 refine cl (ale rfl) (d17t _ _ _ _ g_17 _ _ _ hs fun st b_18 hs => ?_)
 refine rn 5 rfl ?_
 refine W.o (lN (s := c34 r_9.1) rfl (hs.g 2 rfl) rfl rfl) ?_
 obtain ⟨r_19, g_20, hF⟩ := bind_some hF
 refine rn 1 rfl ?_
 refine df (d17 _ _ _ _ g_20) rfl ?_
 refine rn 8 rfl ?_
 refine ci hF rfl (fun c_21 hF => ?_) (fun c_21 hF => ?_)
 · refine rn 1 rfl ?_
   cases hF
   exact rD (rlt rl0) rfl
 refine rn 2 rfl ?_
 have hs : SH st (bx34_2r b_7 r_4.1 :: _) := SH.bx1c b_6 (hs.p 6 [3, 4, 0, 0, 0, 0] rfl)
 have hs := hs.ownNil Int
 exact w5 (.p1 r_19.1 0 r_4.1 r_9.1 r_13 r_16.1 none) _ hF _ _ b_7 b_11 b_15 b_18 0 ⟨rfl, rfl, rfl, rfl, rfl, rfl, rfl, trivial⟩ (hs.p 6 [1, 3, 2, 1, 0] rfl)
end Go.Proofs.Ytjbafmnocopofaa
end
section
namespace Go.Proofs.Ytjbafmnocopofaa
open Go AW
theorem sm {α β : Type} (a : α) (f : α → Option β) : (some a >>= f) = f a := rfl
theorem dti {p : Prop} [Decidable p] {α : Type} {x y : α} (h : p) : (if decide p = true then x else y) = x := by simp [h]
theorem dfi {p : Prop} [Decidable p] {α : Type} {x y : α} (h : ¬ p) : (if decide p = true then x else y) = y := by simp [h]
theorem eti {a b : Int} {α : Type} {x y : α} (h : a = b) : (if (a == b) = true then x else y) = x := by simp [h]
theorem efi {a b : Int} {α : Type} {x y : α} (h : a ≠ b) : (if (a == b) = true then x else y) = y := by simp [h]
theorem nti {a b : Int} {α : Type} {x y : α} (h : a ≠ b) : (if (a != b) = true then x else y) = x := by simp [h]
theorem nfi {a b : Int} {α : Type} {x y : α} (h : a = b) : (if (a != b) = true then x else y) = y := by simp [h]
theorem wi (x : Int) (h : -9223372036854775808 ≤ x) (h' : x ≤ 9223372036854775807) : IntKind.wrap .i64 x = x := by
  simp only [IntKind.wrap, IntKind.bits, IntKind.signed, Bool.true_and, decide_eq_true_eq, ge_iff_le]
  have e : (2 : Int) ^ 64 = 18446744073709551616 := by decide
  have e' : (2 : Int) ^ (64 - 1) = 9223372036854775808 := by decide
  first
    | (split <;> omega)
    | (simp only [e, e']; split <;> omega)
theorem wn1 (n : Nat) (h : n < 9223372036854775807) : IntKind.wrap .i64 ((n : Int) + 1) = ((n + 1 : Nat) : Int) := by rw [wi _ (by omega) (by omega)]; omega
theorem wm1 (n : Nat) (h : 1 ≤ n) (h' : n < 9223372036854775807) : IntKind.wrap .i64 ((n : Int) - 1) = ((n - 1 : Nat) : Int) := by rw [wi _ (by omega) (by omega)]; omega
theorem ixs {α : Type} {l : List α} {i : Nat} {c : α} (h : l[i]? = some c) : ix l (i : Int) = some c := by rw [ix_nat]; exact h
theorem get_ex {α : Type} (l : List α) {i : Nat} (h : i < l.length) : ∃ c, l[i]? = some c := ⟨l[i], by simp [h]⟩
theorem drop_cons {α : Type} {l : List α} {i : Nat} {c : α} (h : l[i]? = some c) : l.drop i = c :: l.drop (i + 1) := by
  have hi : i < l.length := by rw [List.getElem?_eq_some_iff] at h; exact h.1
  rw [List.drop_eq_getElem_cons hi]
  congr 1
  rw [List.getElem?_eq_some_iff] at h
  exact h.2
theorem take_snoc {α : Type} {l : List α} {i : Nat} {c : α} (h : l[i]? = some c) : l.take (i + 1) = l.take i ++ [c] := by
  rw [List.take_add_one, h]; rfl
theorem ge_lt {α : Type} {l : List α} {i : Nat} {c : α} (h : l[i]? = some c) : i < l.length := by rw [List.getElem?_eq_some_iff] at h; exact h.1
def so {α : Type} : List α → Sl α
  | [] => none
  | x :: l => some (x :: l)
theorem ls_so {α : Type} (l : List α) : ls (so l) = l := by cases l <;> rfl
theorem sapp_so {α : Type} (l m : List α) : sapp (so l) m = so (l ++ m) := by
  cases l with
  | nil => cases m <;> rfl
  | cons x l => rfl
end Go.Proofs.Ytjbafmnocopofaa
end
section
namespace Go.Proofs.Ytjbafmnocopofaa
open Go AW
set_option maxHeartbeats 4000000
mutual
def cnt : T27 → Nat
  | ⟨_, _, _, _, _, o⟩ => cnto o + 1
def cnto : Option (List T27) → Nat
  | none => 0
  | some l => cntl l
def cntl : List T27 → Nat
  | [] => 0
  | x :: l => cnt x + cntl l
end
theorem cnt_eq (n : T27) : cnt n = cntl (ls n.Kids) + 1 := by
  obtain ⟨_, _, _, _, _, o⟩ := n
  rw [cnt]
  cases o with
  | none => rfl
  | some l => rfl
theorem cnt_mem : ∀ {l : List T27} {k : T27}, k ∈ l → cnt k ≤ cntl l
  | [], k, h => by simp at h
  | x :: l, k, h => by
    rw [cntl]
    rcases List.mem_cons.1 h with rfl | h
    · omega
    have := cnt_mem h; omega
theorem cnt_kid {n k : T27} (h : k ∈ ls n.Kids) : cnt k < cnt n := by
  have := cnt_mem h
  rw [cnt_eq n]; omega
theorem cnt_pos (n : T27) : 1 ≤ cnt n := by rw [cnt_eq]; omega
theorem cntl_len : ∀ l : List T27, l.length ≤ cntl l
  | [] => by simp
  | x :: l => by have := cntl_len l; have := cnt_pos x; rw [cntl, List.length_cons]; omega
theorem tree_ind {P : T27 → Prop} (h : ∀ n, (∀ k ∈ ls n.Kids, P k) → P n) : ∀ n, P n := by
  have key : ∀ (m : Nat) (n : T27), cnt n ≤ m → P n := by
    intro m
    induction m with
    | zero => intro n hn; have := cnt_pos n; omega
    | succ m ih => exact fun n hn => h n fun k hk => ih k (by have := cnt_kid hk; omega)
  exact fun n => key _ n (Nat.le_refl _)
theorem cntl_drop {l : List T27} {i : Nat} {k : T27} (h : l[i]? = some k) : cntl (l.drop i) = cnt k + cntl (l.drop (i + 1)) := by rw [drop_cons h, cntl]
abbrev Cz := Int × Int × Nat
def cres (t : Int) (c m : Nat) : Bool × Cz := if c + m ≤ 8192 then (true, (t, ((c + m : Nat) : Int), 0)) else (false, (3, 8193, 1))
theorem b12 (a b x : T27) (t : Int) (c : Nat) (hc : c ≤ 8192) : B12_1 a b x (t, (c : Int), 0) = some (cres t c 1) := by
  unfold B12_1 cres
  simp only
  rw [if_pos trivial, wn1 c (by omega)]
  by_cases h : c + 1 ≤ 8192
  · rw [dfi (by omega), if_pos h]
  have : c = 8192 := by omega
  subst this
  rw [dti (by omega), if_neg (by omega)]; rfl
theorem g41_1 (a b : T27) (n : T27) (hn : ∀ k ∈ ls n.Kids, ∀ (t : Int) (c : Nat), c ≤ 8192 → G41 (B12_1 a b) (.e k (t, (c : Int), 0)) = some (cres t c (cnt k))) (t : Int) :
    ∀ (m i c : Nat), m + i = (ls n.Kids).length → i ≤ c → c ≤ 8192 → G41 (B12_1 a b) (.p1 n ((ls n.Kids).length : Int) (i : Int) (t, (c : Int), 0)) = some (cres t c (cntl ((ls n.Kids).drop i)))
  | 0, i, c, h, hi, hc => by
    rw [G41.eq_2, dfi (by omega), List.drop_of_length_le (by omega), cres, cntl, if_pos (by omega), Nat.add_zero]
  | m + 1, i, c, h, hi, hc => by
    obtain ⟨k, hk⟩ := get_ex (ls n.Kids) (i := i) (by omega)
    have hp := cnt_pos k
    rw [G41.eq_2, dti (by omega), ixs hk, sm, hn k (List.mem_of_getElem? hk) t c hc, sm, cntl_drop hk]
    unfold cres
    by_cases h1 : c + cnt k ≤ 8192
    · rw [if_pos h1]
      simp only [Bool.not_true, Bool.false_eq_true, if_false]
      rw [wn1 i (by omega), g41_1 a b n hn t m (i + 1) (c + cnt k) (by omega) (by omega) h1]
      unfold cres
      rw [Nat.add_assoc]
    rw [if_neg h1, if_neg (show ¬ c + (cnt k + cntl ((ls n.Kids).drop (i + 1))) ≤ 8192 by omega)]; rfl
theorem g41 (a b : T27) : ∀ (n : T27) (t : Int) (c : Nat), c ≤ 8192 → G41 (B12_1 a b) (.e n (t, (c : Int), 0)) = some (cres t c (cnt n)) := by
  intro n
  induction n using tree_ind with
  | h n ih =>
    intro t c hc
    rw [G41.eq_1, b12 a b n t c hc, sm, cnt_eq]
    unfold cres
    by_cases h1 : c + 1 ≤ 8192
    · rw [if_pos h1]
      simp only [Bool.not_true, Bool.false_eq_true, if_false]
      have := g41_1 a b n ih t (ls n.Kids).length 0 (c + 1) (by omega) (by omega) h1
      have this' : G41 (B12_1 a b) (.p1 n ((ls n.Kids).length : Int) 0 (t, ((c + 1 : Nat) : Int), 0)) = _ := this
      rw [this', List.drop_zero]
      unfold cres
      rw [Nat.add_assoc, Nat.add_comm 1]
    rw [if_neg h1, if_neg (show ¬ c + (cntl (ls n.Kids) + 1) ≤ 8192 by omega)]; rfl
theorem f40 (a b n : T27) (t : Int) : F40 (B12_1 a b) n (t, 0, 0) = some (if cnt n ≤ 8192 then (t, (cnt n : Int), 0) else (3, 8193, 1)) := by
  unfold F40 F41
  have := g41 a b n t 0 (by omega)
  have this' : G41 (B12_1 a b) (.e n (t, 0, 0)) = _ := this
  rw [this', sm]
  unfold cres
  rw [Nat.zero_add]
  split <;> rfl
def pl (n : T27) : Bool :=
  (if n.Kind = 3 ∨ n.Kind = 4 then decide (2 ≤ (ls n.Kids).length)
   else if n.Kind = 5 then decide (0 ≤ n.Min ∧ n.Min ≤ 255 ∧ (n.Max = -1 ∨ n.Min ≤ n.Max ∧ n.Max ≤ 255)) && decide ((ls n.Kids).length = 1)
   else if n.Kind = 6 then decide ((ls n.Kids).length = 1)
   else if n.Kind = 1 ∨ n.Kind = 2 ∨ n.Kind = 7 ∨ n.Kind = 8 ∨ n.Kind = 9 then decide ((ls n.Kids).length = 0) else false) &&
  (decide (n.Kind = 2) || decide (n.Set = Arr.rep 4 0)) && (decide (n.Kind = 5) || decide (n.Min = 0 ∧ n.Max = 0)) && (decide (n.Kind = 6) || decide (n.Kind = 7) || decide (n.Group = 0))
theorem g31 (n : T27) (k w : Int) : G31 (.p1 n k w) = some (decide (k = w) && (decide (n.Kind = 2) || decide (n.Set = Arr.rep 4 0)) && (decide (n.Kind = 5) || decide (n.Min = 0 ∧ n.Max = 0)) && (decide (n.Kind = 6) || decide (n.Kind = 7) || decide (n.Group = 0))) := by
  have e : ∀ a b : Int, (a == b) = decide (a = b) := fun a b => by rw [Bool.eq_iff_iff]; simp
  rw [G31.eq_1]
  simp only [e]
  by_cases h1 : k = w <;> by_cases h2 : n.Kind = 2 <;> by_cases h3 : n.Set = Arr.rep 4 0 <;> by_cases h4 : n.Kind = 5 <;> by_cases h5 : n.Min = 0 <;> by_cases h6 : n.Max = 0 <;> by_cases h7 : n.Kind = 6 <;> by_cases h8 : n.Kind = 7 <;> simp [h1, h2, h3, h4, h5, h6, h7, h8] <;> omega
theorem nkinds (k : Int) : k = 1 ∨ k = 2 ∨ k = 3 ∨ k = 4 ∨ k = 5 ∨ k = 6 ∨ k = 7 ∨ k = 8 ∨ k = 9 ∨ (k ≠ 1 ∧ k ≠ 2 ∧ k ≠ 3 ∧ k ≠ 4 ∧ k ≠ 5 ∧ k ≠ 6 ∧ k ≠ 7 ∧ k ≠ 8 ∧ k ≠ 9) := by omega
theorem f31 (n : T27) : F31 n = some (pl n) := by
  unfold F31 pl
  simp only [g31]
  have e2 : decide (((ls n.Kids).length : Int) = if 2 > ((ls n.Kids).length : Int) then 2 else ((ls n.Kids).length : Int)) = decide (2 ≤ (ls n.Kids).length) := by
    rw [Bool.eq_iff_iff, decide_eq_true_eq, decide_eq_true_eq]; split <;> omega
  have e1 : decide (((ls n.Kids).length : Int) = 1) = decide ((ls n.Kids).length = 1) := by
    rw [Bool.eq_iff_iff, decide_eq_true_eq, decide_eq_true_eq]; omega
  have e0 : decide (((ls n.Kids).length : Int) = 0) = decide ((ls n.Kids).length = 0) := by
    rw [Bool.eq_iff_iff, decide_eq_true_eq, decide_eq_true_eq]; omega
  simp only [e2, e1, e0]
  rcases nkinds n.Kind with h | h | h | h | h | h | h | h | h | h
  case inr.inr.inr.inr.inl =>
    simp (config := {decide := true}) only [h, if_true, if_false]
    by_cases h1 : n.Min < 0
    · rw [dti h1, decide_eq_false (p := 0 ≤ n.Min ∧ _) (by omega)]; simp
    rw [dfi h1]
    by_cases h2 : n.Min > 255
    · rw [dti h2, decide_eq_false (p := 0 ≤ n.Min ∧ _) (by omega)]; simp
    rw [dfi h2]
    by_cases h3 : n.Max = -1
    · rw [nfi h3, decide_eq_true (p := 0 ≤ n.Min ∧ _) (by omega)]; simp
    rw [nti h3]
    by_cases h4 : n.Max < n.Min
    · rw [dti h4, decide_eq_false (p := 0 ≤ n.Min ∧ _) (by omega)]; simp
    rw [dfi h4]
    by_cases h5 : n.Max > 255
    · rw [dti h5, decide_eq_false (p := 0 ≤ n.Min ∧ _) (by omega)]; simp
    rw [dfi h5, decide_eq_true (p := 0 ≤ n.Min ∧ _) (by omega)]; simp
  case inr.inr.inr.inr.inr.inr.inr.inr.inr =>
    obtain ⟨a1, a2, a3, a4, a5, a6, a7, a8, a9⟩ := h
    have e1 : ∀ k : Int, n.Kind ≠ k → (n.Kind == k) = false := fun k h => by simpa using h
    simp (config := {decide := true}) only [e1 _ a1, e1 _ a2, e1 _ a3, e1 _ a4, e1 _ a5, e1 _ a6, e1 _ a7, e1 _ a8, e1 _ a9, a1, a2, a3, a4, a5, a6, a7, a8, a9, if_false, or_self, Bool.false_and, Bool.false_eq_true]
  all_goals simp (config := {decide := true}) only [h, if_true, if_false, true_or, or_true, or_false, false_or]
end Go.Proofs.Ytjbafmnocopofaa
end
section
namespace Go.Proofs.Ytjbafmnocopofaa
open Go AW
set_option maxHeartbeats 4000000
mutual
def gcnt : T27 → Nat
  | ⟨k, _, _, _, _, o⟩ => (if k = 6 then 1 else 0) + gcnto o
def gcnto : Option (List T27) → Nat
  | none => 0
  | some l => gcntl l
def gcntl : List T27 → Nat
  | [] => 0
  | x :: l => gcnt x + gcntl l
end
theorem gcnt_eq (n : T27) : gcnt n = (if n.Kind = 6 then 1 else 0) + gcntl (ls n.Kids) := by
  obtain ⟨_, _, _, _, _, o⟩ := n
  rw [gcnt]
  cases o with
  | none => rfl
  | some l => rfl
def goodp (n : T27) (b : Nat) : Prop := pl n = true ∧ (n.Kind = 6 → n.Group = (b : Int) + 1 ∧ b + 1 ≤ 99) ∧ (n.Kind = 7 → 1 ≤ n.Group ∧ n.Group ≤ 9 ∧ n.Group ≤ (b : Int))
mutual
def good : T27 → Nat → Prop
  | ⟨k, st, mn, mx, g, o⟩, b => goodp ⟨k, st, mn, mx, g, o⟩ b ∧ goodo o (b + if k = 6 then 1 else 0)
def goodo : Option (List T27) → Nat → Prop
  | none, _ => True
  | some l, b => goodl l b
def goodl : List T27 → Nat → Prop
  | [], _ => True
  | x :: l, b => good x b ∧ goodl l (b + gcnt x)
end
theorem good_eq (n : T27) (b : Nat) : good n b ↔ goodp n b ∧ goodl (ls n.Kids) (b + if n.Kind = 6 then 1 else 0) := by
  obtain ⟨k, st, mn, mx, g, o⟩ := n
  rw [good]
  cases o with
  | none => simp [goodo, ls, goodl]
  | some l => rw [goodo]; rfl
theorem ls_sapp1 {α : Type} (o : Sl α) (x : α) : ls (sapp o (ls (some [x]))) = ls o ++ [x] := by rw [ls_sapp]; rfl
theorem p4_no (n : T27) (hl : (ls n.Kids).length ≤ 100000) (b : Int) (E : Sl Bool) : ∀ (m i : Nat), m + i = (ls n.Kids).length → G30 (.p4 n ((ls n.Kids).length : Int) (i : Int) false b E) = some (false, b, E)
  | 0, i, h => by rw [G30.eq_5, dfi (by omega), if_neg (by simp)]
  | m + 1, i, h => by rw [G30.eq_5, dti (by omega), if_neg (by simp), wn1 i (by omega), p4_no n hl b E m (i + 1) (by omega)]
def Chk (b m : Nat) (g : Prop) (gc : Nat) (r : Option (Bool × Int × Sl Bool)) : Prop :=
  ∃ (ok : Bool) (b' : Nat) (E' : Sl Bool), r = some (ok, (b' : Int), E') ∧ (ls E').length = b' ∧ b ≤ b' ∧ b' ≤ b + m ∧ (ok = true → g) ∧ (ok = true → b' = b + gc)
theorem g30_4 (n : T27) (hl : (ls n.Kids).length ≤ 100000) (ih : ∀ k ∈ ls n.Kids, ∀ (b : Nat) (E : Sl Bool), (ls E).length = b → b + cnt k ≤ 100000 → Chk b (cnt k) (good k b) (gcnt k) (G30 (.e k true (b : Int) E))) :
    ∀ (m i b : Nat) (E : Sl Bool), m + i = (ls n.Kids).length → (ls E).length = b → b + cntl ((ls n.Kids).drop i) ≤ 100000 → (n.Kind = 6 → 1 ≤ n.Group ∧ n.Group ≤ (b : Int)) →
    Chk b (cntl ((ls n.Kids).drop i)) (goodl ((ls n.Kids).drop i) b) (gcntl ((ls n.Kids).drop i)) (G30 (.p4 n ((ls n.Kids).length : Int) (i : Int) true (b : Int) E))
  | 0, i, b, E, h, hE, hb, hg => by
    rw [G30.eq_5, dfi (by omega), if_pos rfl, List.drop_of_length_le (by omega)]
    by_cases h6 : n.Kind = 6
    · have := hg h6
      obtain ⟨g, hgn⟩ : ∃ g : Nat, n.Group - 1 = g := ⟨(n.Group - 1).toNat, by omega⟩
      obtain ⟨v, hv⟩ := get_ex (ls E) (i := g) (by omega)
      rw [eti h6, wi _ (by omega) (by omega), hgn, ixs hv, sm]
      exact ⟨true, b, _, rfl, by rw [ls_vset, List.length_set, hE], by omega, by omega, fun _ => by rw [goodl]; trivial, fun _ => rfl⟩
    rw [efi h6]
    exact ⟨true, b, E, rfl, hE, by omega, by omega, fun _ => by rw [goodl]; trivial, fun _ => rfl⟩
  | m + 1, i, b, E, h, hE, hb, hg => by
    obtain ⟨k, hk⟩ := get_ex (ls n.Kids) (i := i) (by omega)
    have hd := cntl_drop hk
    have hgd : gcntl ((ls n.Kids).drop i) = gcnt k + gcntl ((ls n.Kids).drop (i + 1)) := by rw [drop_cons hk, gcntl]
    have hgo : goodl ((ls n.Kids).drop i) b ↔ good k b ∧ goodl ((ls n.Kids).drop (i + 1)) (b + gcnt k) := by rw [drop_cons hk, goodl]
    rw [G30.eq_5, dti (by omega), if_pos rfl, ixs hk, sm, hd, hgd, hgo]
    obtain ⟨ok, b', E', e, h1, h2, h3, h4, h5⟩ := ih k (List.mem_of_getElem? hk) b E hE (by omega)
    rw [e, sm, wn1 i (by omega)]
    cases ok with
    | false =>
      rw [p4_no n hl _ _ m (i + 1) (by omega)]
      exact ⟨false, b', E', rfl, h1, h2, by omega, fun h => (by cases h), fun h => by cases h⟩
    | true =>
      have h4' := h4 rfl
      have h5' := h5 rfl
      subst h5'
      obtain ⟨ok2, b2, E2, e2, j1, j2, j3, j4, j5⟩ := g30_4 n hl ih m (i + 1) (b + gcnt k) E' (by omega) h1 (by omega) (fun h => by have := hg h; omega)
      refine ⟨ok2, b2, E2, e2, j1, by omega, by omega, fun h => ⟨h4', j4 h⟩, fun h => by have := j5 h; omega⟩
theorem g30 : ∀ (n : T27) (b : Nat) (E : Sl Bool), (ls E).length = b → b + cnt n ≤ 100000 → Chk b (cnt n) (good n b) (gcnt n) (G30 (.e n true (b : Int) E)) := by
  intro n
  induction n using tree_ind with
  | h n ih =>
    intro b E hE hb
    have hc := cnt_eq n
    have hkl := cntl_len (ls n.Kids)
    rw [G30.eq_1, if_pos rfl, f31, sm, G30.eq_2, good_eq, gcnt_eq]
    unfold goodp
    cases hp : pl n with
    | false =>
      rw [if_pos (show (!false) = true from rfl)]
      exact ⟨false, b, E, rfl, hE, by omega, by omega, fun h => (by cases h), fun h => by cases h⟩
    | true =>
      have h4 := fun (b : Nat) (E : Sl Bool) (h1 : (ls E).length = b) (h2 : b + cntl ((ls n.Kids).drop 0) ≤ 100000) (h3 : n.Kind = 6 → 1 ≤ n.Group ∧ n.Group ≤ (b : Int)) => g30_4 n (by omega) ih (ls n.Kids).length 0 b E (by omega) h1 h2 h3
      rw [List.drop_zero] at h4
      have h3f : ∀ (b' : Int) (E : Sl Bool), G30 (.p3 n false b' E) = some (false, b', E) := fun b' E => by
        rw [G30.eq_4]
        exact p4_no n (by omega) b' E (ls n.Kids).length 0 (by omega)
      rw [if_neg (show ¬ (!true) = true by simp)]
      by_cases h6 : n.Kind = 6
      · rw [eti h6, wn1 b (by omega), if_pos h6]
        have hgrow : ∀ ok : Bool, G30 (.p2 n ok ((b + 1 : Nat) : Int) E) = G30 (.p3 n ok ((b + 1 : Nat) : Int) (sapp E (ls (some [false])))) := fun ok => by
          rw [G30.eq_3, if_pos (by simp [ls] at hE ⊢; omega)]
        have hE1 : (ls (sapp E (ls (some [false])))).length = b + 1 := by rw [ls_sapp1]; simp [hE]
        by_cases hg : n.Group = ((b + 1 : Nat) : Int)
        · rw [eti hg, hgrow]
          by_cases h99 : b + 1 ≤ 99
          · rw [decide_eq_true (by omega), G30.eq_4]
            obtain ⟨ok, b', E', e, j1, j2, j3, j4, j5⟩ := h4 (b + 1) _ hE1 (by omega) (fun _ => by omega)
            exact ⟨ok, b', E', e, j1, by omega, by omega, fun h => ⟨⟨rfl, fun _ => ⟨by omega, h99⟩, fun h7 => by omega⟩, j4 h⟩, fun h => by have := j5 h; omega⟩
          rw [decide_eq_false (by omega), h3f]
          exact ⟨false, b + 1, _, rfl, hE1, by omega, by omega, fun h => (by cases h), fun h => by cases h⟩
        rw [efi hg, hgrow, h3f]
        exact ⟨false, b + 1, _, rfl, hE1, by omega, by omega, fun h => (by cases h), fun h => by cases h⟩
      rw [efi h6, if_neg h6, Nat.zero_add, Nat.add_zero]
      have no : ∀ P gc, Chk b (cnt n) P gc (G30 (.p3 n false (b : Int) E)) := fun P gc => by
        rw [h3f]; exact ⟨false, b, E, rfl, hE, by omega, by omega, fun h => (by cases h), fun h => by cases h⟩
      have yes : (n.Kind = 7 → 1 ≤ n.Group ∧ n.Group ≤ 9 ∧ n.Group ≤ (b : Int)) → Chk b (cnt n) ((true = true ∧ (n.Kind = 6 → n.Group = (b : Int) + 1 ∧ b + 1 ≤ 99) ∧ (n.Kind = 7 → 1 ≤ n.Group ∧ n.Group ≤ 9 ∧ n.Group ≤ (b : Int))) ∧ goodl (ls n.Kids) b) (gcntl (ls n.Kids)) (G30 (.p3 n true (b : Int) E)) := by
        intro hok
        rw [G30.eq_4]
        obtain ⟨ok, b', E', e, j1, j2, j3, j4, j5⟩ := h4 b E hE (by omega) (fun h => absurd h h6)
        exact ⟨ok, b', E', e, j1, by omega, by omega, fun h => ⟨⟨rfl, fun h => absurd h h6, hok⟩, j4 h⟩, fun h => by have := j5 h; omega⟩
      by_cases h7 : n.Kind = 7
      · rw [eti h7]
        by_cases k1 : n.Group ≥ 1
        · rw [dti k1]
          by_cases k2 : n.Group ≤ 9
          · rw [dti k2]
            by_cases k3 : n.Group ≤ (b : Int)
            · rw [dti k3]
              obtain ⟨g, hgn⟩ : ∃ g : Nat, n.Group - 1 = g := ⟨(n.Group - 1).toNat, by omega⟩
              obtain ⟨v, hv⟩ := get_ex (ls E) (i := g) (by omega)
              rw [wi _ (by omega) (by omega), hgn, ixs hv, sm]
              cases v with
              | false => exact no _ _
              | true => exact yes fun _ => ⟨k1, k2, k3⟩
            rw [dfi k3]; exact no _ _
          rw [dfi k2]; exact no _ _
        rw [dfi k1]; exact no _ _
      rw [efi h7]; exact yes fun h => absurd h h7
theorem f12 (n : T27) : ∃ r : Int, F12 n = some r ∧ (r = 0 → good n 0 ∧ cnt n ≤ 8192) := by
  unfold F12 F29
  rw [sm, G12.eq_1, f40, sm]
  by_cases h : cnt n ≤ 8192
  · rw [if_pos h, if_pos rfl]
    obtain ⟨ok, b', E', e, h1, h2, h3, h4, h5⟩ := g30 n 0 none (by simp [ls]) (by omega)
    have e' : F30 n true 0 none = some (ok, (b' : Int), E') := e
    rw [e', sm]
    cases ok with
    | false => exact ⟨90, rfl, fun h => by cases h⟩
    | true => exact ⟨0, rfl, fun _ => ⟨h4 rfl, h⟩⟩
  rw [if_neg h]
  exact ⟨3, rfl, fun h => by cases h⟩
end Go.Proofs.Ytjbafmnocopofaa
end
section
namespace Go.Proofs.Ytjbafmnocopofaa
open Go AW
set_option maxHeartbeats 4000000
theorem nat_of' {z : Int} (h : 0 ≤ z) : ∃ n : Nat, z = n := ⟨z.toNat, by omega⟩
theorem b28 (a : Int) (t x : T27) (c : Nat) (hc : c ≤ 100000) : B28_1 a t x ((c : Int), 0) = some (true, (((c + if x.Kind = 6 then 1 else 0 : Nat) : Int), 0)) := by
  unfold B28_1
  simp only
  rw [if_pos trivial]
  by_cases h : x.Kind = 6
  · rw [eti h, wn1 c (by omega), if_pos h]
  rw [efi h, if_neg h]; rfl
theorem gcnt_le : ∀ n : T27, gcnt n ≤ cnt n := by
  intro n
  induction n using tree_ind with
  | h n ih =>
    rw [gcnt_eq, cnt_eq]
    have : ∀ l : List T27, (∀ k ∈ l, gcnt k ≤ cnt k) → gcntl l ≤ cntl l := by
      intro l
      induction l with
      | nil => intro _; rw [gcntl, cntl]; omega
      | cons x l ihl => intro h; have := h x (by simp); have := ihl fun k hk => h k (by simp [hk]); rw [gcntl, cntl]; omega
    have := this _ ih
    split <;> omega
theorem g41b_1 (a : Int) (t : T27) (n : T27) (hl : (ls n.Kids).length ≤ 100000) (hn : ∀ k ∈ ls n.Kids, ∀ (c : Nat), c + cnt k ≤ 100000 → G41 (B28_1 a t) (.e k ((c : Int), 0)) = some (true, (((c + gcnt k : Nat) : Int), 0))) :
    ∀ (m i c : Nat), m + i = (ls n.Kids).length → c + cntl ((ls n.Kids).drop i) ≤ 100000 → G41 (B28_1 a t) (.p1 n ((ls n.Kids).length : Int) (i : Int) ((c : Int), 0)) = some (true, (((c + gcntl ((ls n.Kids).drop i) : Nat) : Int), 0))
  | 0, i, c, h, hc => by
    rw [G41.eq_2, dfi (by omega), List.drop_of_length_le (by omega), gcntl, Nat.add_zero]
  | m + 1, i, c, h, hc => by
    obtain ⟨k, hk⟩ := get_ex (ls n.Kids) (i := i) (by omega)
    have hd := cntl_drop hk
    have hg := gcnt_le k
    rw [G41.eq_2, dti (by omega), ixs hk, sm, hn k (List.mem_of_getElem? hk) c (by omega), sm]
    simp only [Bool.not_true, Bool.false_eq_true, if_false]
    rw [wn1 i (by omega), g41b_1 a t n hl hn m (i + 1) (c + gcnt k) (by omega) (by omega), drop_cons hk, gcntl, Nat.add_assoc]
theorem g41b (a : Int) (t : T27) : ∀ (n : T27) (c : Nat), c + cnt n ≤ 100000 → G41 (B28_1 a t) (.e n ((c : Int), 0)) = some (true, (((c + gcnt n : Nat) : Int), 0)) := by
  intro n
  induction n using tree_ind with
  | h n ih =>
    intro c hc
    have he := cnt_eq n
    have hl := cntl_len (ls n.Kids)
    rw [G41.eq_1, b28 a t n c (by omega), sm]
    simp only [Bool.not_true, Bool.false_eq_true, if_false]
    have := g41b_1 a t n (by omega) ih (ls n.Kids).length 0 (c + if n.Kind = 6 then 1 else 0) (by omega) (by rw [List.drop_zero]; split <;> omega)
    have this' : G41 (B28_1 a t) (.p1 n ((ls n.Kids).length : Int) 0 (((c + if n.Kind = 6 then 1 else 0 : Nat) : Int), 0)) = _ := this
    rw [this', List.drop_zero, gcnt_eq, Nat.add_assoc]
theorem f28 (n : T27) (h : cnt n ≤ 8192) : F28 n = some (gcnt n : Int) := by
  unfold F28 F29
  rw [sm, G28.eq_1]
  unfold F40 F41
  have := g41b 0 n n 0 (by omega)
  have this' : G41 (B28_1 0 n) (.e n (0, 0)) = _ := this
  rw [this', sm, sm, if_pos rfl, Nat.zero_add]
def glo (b m : Nat) : Int := if m = 0 then 0 else (b : Int) + 1
def ghi (b m : Nat) : Int := if m = 0 then 0 else (b : Int) + m
theorem g38_2 (n : T27) (ih : ∀ k ∈ ls n.Kids, ∀ b : Nat, good k b → G38 (.e k) = some (glo b (gcnt k), ghi b (gcnt k))) (b : Nat) (hl : (ls n.Kids).length ≤ 100000) :
    ∀ (q i m : Nat), q + i = (ls n.Kids).length → goodl ((ls n.Kids).drop i) (b + m) → G38 (.p2 (glo b m) (ghi b m) n.Kids ((ls n.Kids).length : Int) (i : Int)) = some (glo b (m + gcntl ((ls n.Kids).drop i)), ghi b (m + gcntl ((ls n.Kids).drop i)))
  | 0, i, m, h, hg => by
    rw [G38.eq_3, dfi (by omega), List.drop_of_length_le (by omega), gcntl]; rfl
  | q + 1, i, m, h, hg => by
    obtain ⟨k, hk⟩ := get_ex (ls n.Kids) (i := i) (by omega)
    rw [drop_cons hk, goodl] at hg
    have step := g38_2 n ih b hl q (i + 1) (m + gcnt k) (by omega) (by rw [← Nat.add_assoc]; exact hg.2)
    have fin : G38 (.p2 (glo b (m + gcnt k)) (ghi b (m + gcnt k)) n.Kids ((ls n.Kids).length : Int) (IntKind.wrap .i64 ((i : Int) + 1))) = some (glo b (m + gcntl ((ls n.Kids).drop i)), ghi b (m + gcntl ((ls n.Kids).drop i))) := by
      rw [wn1 i (by omega), step, drop_cons hk, gcntl, Nat.add_assoc]
    rw [G38.eq_3, dti (by omega), ixs hk, sm, ih k (List.mem_of_getElem? hk) _ hg.1, sm]
    simp only [G38.eq_4]
    generalize gcnt k = g at *
    by_cases h0 : g = 0
    · subst h0
      rw [dfi (by simp [glo])]
      have : ghi (b + m) 0 = 0 := rfl
      rw [this, if_neg (by unfold ghi; split <;> omega)]
      exact fin
    rw [dti (by simp only [glo, if_neg h0]; omega)]
    by_cases hm : m = 0
    · subst hm
      rw [eti (by rfl)]
      have e1 : glo (b + 0) g = glo b (0 + g) := by simp [glo]
      have e2 : (if ghi (b + 0) g > ghi b 0 then ghi (b + 0) g else ghi b 0) = ghi b (0 + g) := by
        have : ghi b 0 = 0 := rfl
        rw [this, Nat.zero_add, Nat.add_zero]; unfold ghi; rw [if_neg h0, if_pos (by omega)]
      rw [e1, e2]
      exact fin
    rw [efi (by simp only [glo, if_neg hm]; omega), dfi (by simp only [glo, if_neg hm, if_neg h0]; omega)]
    have e1 : glo b m = glo b (m + g) := by simp [glo, hm]
    have e2 : (if ghi (b + m) g > ghi b m then ghi (b + m) g else ghi b m) = ghi b (m + g) := by
      unfold ghi; rw [if_neg h0, if_neg hm, if_neg (by omega : ¬ m + g = 0), if_pos (by omega)]; omega
    rw [e2, e1]
    exact fin
theorem g38 : ∀ (n : T27) (b : Nat), cnt n ≤ 100000 → good n b → G38 (.e n) = some (glo b (gcnt n), ghi b (gcnt n)) := by
  intro n
  induction n using tree_ind with
  | h n ih =>
    intro b hc hg
    have he := cnt_eq n
    have hl := cntl_len (ls n.Kids)
    rw [good_eq] at hg
    have ih' : ∀ k ∈ ls n.Kids, ∀ b : Nat, good k b → G38 (.e k) = some (glo b (gcnt k), ghi b (gcnt k)) := fun k hk b h => ih k hk b (by have := cnt_kid hk; omega) h
    rw [G38.eq_1, gcnt_eq]
    by_cases h6 : n.Kind = 6
    · obtain ⟨e, _⟩ := hg.1.2.1 h6
      rw [eti h6, if_pos h6, G38.eq_2]
      have := g38_2 n ih' b (by omega) (ls n.Kids).length 0 1 (by omega) (by rw [List.drop_zero]; simpa [h6] using hg.2)
      have e1 : glo b 1 = n.Group := by rw [e]; rfl
      have e2 : ghi b 1 = n.Group := by rw [e]; rfl
      rw [e1, e2, List.drop_zero] at this
      exact this
    rw [efi h6, if_neg h6, G38.eq_2]
    have := g38_2 n ih' b (by omega) (ls n.Kids).length 0 0 (by omega) (by rw [List.drop_zero]; simpa [h6] using hg.2)
    rw [List.drop_zero] at this
    exact this
mutual
def sz : T27 → Nat
  | ⟨k, _, mn, mx, _, o⟩ =>
    if k = 1 then 0 else if k = 3 then szo o else if k = 4 then szo o + 2 * ((ls o).length - 1) else if k = 6 then szo o + 2
    else if k = 5 then mn.toNat * (szo o + if gcnto o = 0 then 0 else 1) + (if mx = -1 then (szo o + if gcnto o = 0 then 0 else 1) + 4 else (mx - mn).toNat * ((szo o + if gcnto o = 0 then 0 else 1) + 3)) else 1
def szo : Option (List T27) → Nat
  | none => 0
  | some l => szl l
def szl : List T27 → Nat
  | [] => 0
  | x :: l => sz x + szl l
end
def rsz (k : T27) : Nat := sz k + if gcnt k = 0 then 0 else 1
theorem sz_eq (n : T27) : sz n = if n.Kind = 1 then 0 else if n.Kind = 3 then szl (ls n.Kids) else if n.Kind = 4 then szl (ls n.Kids) + 2 * ((ls n.Kids).length - 1) else if n.Kind = 6 then szl (ls n.Kids) + 2
    else if n.Kind = 5 then n.Min.toNat * (szl (ls n.Kids) + if gcntl (ls n.Kids) = 0 then 0 else 1) + (if n.Max = -1 then (szl (ls n.Kids) + if gcntl (ls n.Kids) = 0 then 0 else 1) + 4 else (n.Max - n.Min).toNat * ((szl (ls n.Kids) + if gcntl (ls n.Kids) = 0 then 0 else 1) + 3)) else 1 := by
  obtain ⟨_, _, _, _, _, o⟩ := n
  rw [sz]
  cases o with
  | none => rfl
  | some l => rfl
def cap (x : Nat) : Nat := min x 16385
theorem cap_le (x : Nat) : cap x ≤ 16385 := by unfold cap; omega
theorem cap_add (x y : Nat) : cap (cap x + cap y) = cap (x + y) := by unfold cap; omega
theorem cap_add1 (x y : Nat) : cap (cap x + y) = cap (x + y) := by unfold cap; omega
theorem cap_add2 (x y : Nat) : cap (x + cap y) = cap (x + y) := by unfold cap; omega
theorem cap_mul (m r : Nat) : cap (m * cap r) = cap (m * r) := by
  by_cases h : r ≤ 16385
  · have : cap r = r := by unfold cap; omega
    rw [this]
  have h1 : cap r = 16385 := by unfold cap; omega
  rw [h1]
  cases m with
  | zero => simp
  | succ m =>
    have h2 : 16385 ≤ (m + 1) * 16385 := Nat.le_mul_of_pos_left _ (by omega)
    have h3 : r ≤ (m + 1) * r := Nat.le_mul_of_pos_left _ (by omega)
    unfold cap
    omega
theorem cap_mul3 (m r : Nat) : cap (m * (cap r + 3)) = cap (m * (r + 3)) := by
  have h1 := cap_mul m (r + 3)
  have h2 := cap_mul m (cap r + 3)
  rw [← h2, cap_add1, h1]
theorem f37 (x q : Nat) (hx : x ≤ 100000000) (hq : q ≤ 100000000) : F37 (x : Int) (q : Int) = some (cap (q + x) : Int) := by
  unfold F37 cap
  rw [wi _ (by omega) (by omega)]
  split <;> exact congrArg some (by omega)
theorem if37 (x : Nat) (h : x ≤ 100000000) : (if 16385 < IntKind.wrap .i64 ((x : Int) + 1) then 16385 else IntKind.wrap .i64 ((x : Int) + 1)) = ((cap (x + 1) : Nat) : Int) := by
  rw [wn1 x (by omega)]
  unfold cap
  split <;> omega
theorem f37' {x q : Int} (m k : Nat) (hx : x = m) (hq : q = k) (h1 : m ≤ 100000000) (h2 : k ≤ 100000000) : F37 x q = some (cap (k + m) : Int) := by subst hx; subst hq; exact f37 m k h1 h2
theorem goodl_mem : ∀ {l : List T27} {b : Nat} {k : T27}, goodl l b → k ∈ l → ∃ b', good k b'
  | [], b, k, _, h => by simp at h
  | x :: l, b, k, hg, h => by
    rw [goodl] at hg
    rcases List.mem_cons.1 h with rfl | h
    · exact ⟨_, hg.1⟩
    exact goodl_mem hg.2 h
theorem g25_3 (n : T27) (hl : (ls n.Kids).length ≤ 100000) (ih : ∀ k ∈ ls n.Kids, G25 (.e k) = some (cap (sz k) : Int)) :
    ∀ (m i a : Nat), m + i = (ls n.Kids).length → G25 (.p3 n n.Kids ((ls n.Kids).length : Int) (i : Int) (cap a : Int)) = (if n.Kind = 4 then F37 (IntKind.wrap .i64 (2 * (IntKind.wrap .i64 (((ls n.Kids).length : Int) - 1)))) (cap (a + szl ((ls n.Kids).drop i)) : Int) >>= fun r => G25 (.p4 n r) else G25 (.p4 n (cap (a + szl ((ls n.Kids).drop i)) : Int)))
  | 0, i, a, h => by
    rw [G25.eq_4, dfi (by omega), List.drop_of_length_le (by omega), szl, Nat.add_zero]
    by_cases h4 : n.Kind = 4
    · rw [eti h4, if_pos h4]
    rw [efi h4, if_neg h4]
  | m + 1, i, a, h => by
    obtain ⟨k, hk⟩ := get_ex (ls n.Kids) (i := i) (by omega)
    have c1 := cap_le (sz k)
    have c2 := cap_le a
    rw [G25.eq_4, dti (by omega), ixs hk, sm, ih k (List.mem_of_getElem? hk), sm, f37 _ _ (by omega) (by omega), sm, wn1 i (by omega), cap_add, g25_3 n hl ih m (i + 1) (a + sz k) (by omega), drop_cons hk, szl, Nat.add_assoc]
theorem g25 : ∀ (n : T27) (b : Nat), cnt n ≤ 100000 → good n b → G25 (.e n) = some (cap (sz n) : Int) := by
  intro n
  induction n using tree_ind with
  | h n ih =>
    intro b hc hg
    have he := cnt_eq n
    have hl := cntl_len (ls n.Kids)
    rw [good_eq] at hg
    have ih' : ∀ k ∈ ls n.Kids, G25 (.e k) = some (cap (sz k) : Int) := fun k hk => by
      obtain ⟨b', hb'⟩ := goodl_mem hg.2 hk
      exact ih k hk b' (by have := cnt_kid hk; omega) hb'
    have hp := hg.1.1
    have h3 := g25_3 n (by omega) ih' (ls n.Kids).length 0 0 (by omega)
    rw [List.drop_zero, Nat.zero_add] at h3
    have h3' := (G25.eq_2 n 0).trans h3
    have c1 := cap_le (szl (ls n.Kids))
    rw [G25.eq_1, sz_eq]
    by_cases k1 : n.Kind = 1
    · rw [eti k1, if_pos k1]; rfl
    rw [efi k1, if_neg k1]
    by_cases k3 : n.Kind = 3
    · rw [eti k3, if_pos k3, h3', if_neg (by omega), G25.eq_5, efi (by omega)]
    rw [efi k3, if_neg k3]
    by_cases k4 : n.Kind = 4
    · rw [eti k4, if_pos k4, h3', if_pos k4]
      have hk2 : 2 ≤ (ls n.Kids).length := by
        unfold pl at hp
        simp only [k4, or_true, if_true, Bool.and_eq_true, decide_eq_true_eq] at hp
        exact hp.1.1.1
      rw [wm1 _ (by omega) (by omega), wi _ (by omega) (by omega), f37' (2 * ((ls n.Kids).length - 1)) (cap (szl (ls n.Kids))) (by omega) rfl (by omega) (by omega), sm, cap_add1, G25.eq_5, efi (by omega)]
    rw [efi k4, if_neg k4]
    by_cases k6 : n.Kind = 6
    · rw [eti k6, if_pos k6, h3', if_neg (by omega), G25.eq_5, eti k6, f37' 2 (cap (szl (ls n.Kids))) (show (2 : Int) = ((2 : Nat) : Int) from rfl) rfl (by omega) (by omega), sm, cap_add1]
    rw [efi k6, if_neg k6]
    by_cases k5 : n.Kind = 5
    · rw [eti k5, if_pos k5]
      unfold pl at hp
      simp (config := {decide := true}) only [k5, or_self, if_false, if_true, Bool.and_eq_true, decide_eq_true_eq] at hp
      obtain ⟨⟨⟨⟨hmm, hk1⟩, _⟩, _⟩, _⟩ := hp
      obtain ⟨k, hk⟩ : ∃ k, ls n.Kids = [k] := List.length_eq_one_iff.1 hk1
      have hkm : k ∈ ls n.Kids := by simp [hk]
      obtain ⟨b', hb'⟩ := goodl_mem hg.2 hkm
      have hck := cnt_kid hkm
      have hix : ix (ls n.Kids) 0 = some k := by rw [hk]; rfl
      have e1 : szl (ls n.Kids) = sz k := by rw [hk, szl, szl]; rfl
      have e2 : gcntl (ls n.Kids) = gcnt k := by rw [hk, gcntl, gcntl]; rfl
      rw [hix, sm, ih' k hkm, sm, sm]
      unfold F38
      rw [g38 k b' (by omega) hb', sm, e1, e2]
      have fin : ∀ r : Nat, G25 (.p2 n (cap r : Int) 0) = some (cap (n.Min.toNat * r + if n.Max = -1 then r + 4 else (n.Max - n.Min).toNat * (r + 3)) : Int) := by
        intro r
        have c2 := cap_le r
        obtain ⟨mn, hmn⟩ := nat_of' hmm.1
        rw [G25.eq_3, hmn, Int.toNat_natCast]
        have hb1 : mn * cap r ≤ 255 * 16385 := Nat.mul_le_mul (by omega) c2
        rw [← Int.natCast_mul, wi _ (by omega) (by omega), f37' (mn * cap r) 0 rfl (show (0 : Int) = ((0 : Nat) : Int) from rfl) (by omega) (by omega), sm, Nat.zero_add, cap_mul]
        have c3 := cap_le (mn * r)
        by_cases hx : n.Max = -1
        · rw [eti hx, if_pos hx, wi _ (by omega) (by omega), f37' (cap r + 4) (cap (mn * r)) (by omega) rfl (by omega) (by omega), sm, cap_add1, ← Nat.add_assoc, Nat.add_comm _ (cap r), Nat.add_assoc, cap_add1]
          exact congrArg (fun x : Nat => some ((cap x : Nat) : Int)) (by omega)
        obtain ⟨d, hd⟩ : ∃ d : Nat, n.Max - (mn : Int) = d := ⟨(n.Max - (mn : Int)).toNat, by omega⟩
        have hb2 : d * (cap r + 3) ≤ 255 * 16388 := Nat.mul_le_mul (by omega) (by omega)
        have e5 : (d : Int) * ((cap r : Int) + 3) = ((d * (cap r + 3) : Nat) : Int) := by rw [Int.natCast_mul, Int.natCast_add]; rfl
        rw [efi hx, if_neg hx, hd, Int.toNat_natCast, wi (d : Int) (by omega) (by omega), wi ((cap r : Int) + 3) (by omega) (by omega), e5, wi _ (by omega) (by omega), f37' (d * (cap r + 3)) (cap (mn * r)) rfl rfl (by omega) (by omega), sm, cap_add1, ← cap_add2, cap_mul3, cap_add2]
      by_cases hg0 : gcnt k = 0
      · rw [dfi (by simp [glo, hg0]), fin, if_pos hg0]; simp only [Nat.add_zero]
      rw [dti (by simp only [glo, if_neg hg0]; omega), if37 _ (by have := cap_le (sz k); omega), cap_add1, fin, if_neg hg0]
    rw [efi k5, if_neg k5]; rfl
theorem f9 (n : T27) : ∃ r : Int × Int, F9 n = some r ∧ (∃ w : Int, F12 n = some w ∧ (w ≠ 0 → r = (0, w)) ∧ (w = 0 → good n 0 ∧ cnt n ≤ 8192 ∧ r = if sz n < 16384 then (((sz n + 1 : Nat) : Int), 0) else (0, 3))) := by
  obtain ⟨w, hw, h⟩ := f12 n
  unfold F9
  rw [hw, sm]
  by_cases h0 : w = 0
  · obtain ⟨hg, hc⟩ := h h0
    subst h0
    rw [nfi rfl]
    unfold F25
    rw [g25 n 0 (by omega) hg, sm]
    by_cases hs : sz n < 16384
    · have : cap (sz n) = sz n := by unfold cap; omega
      rw [this, dti (by omega), wn1 _ (by omega)]
      exact ⟨_, rfl, 0, rfl, fun h => absurd rfl h, fun _ => ⟨hg, hc, by rw [if_pos hs]⟩⟩
    have : 16384 ≤ cap (sz n) := by unfold cap; omega
    rw [dfi (by omega)]
    exact ⟨_, rfl, 0, rfl, fun h => absurd rfl h, fun _ => ⟨hg, hc, by rw [if_neg hs]⟩⟩
  rw [nti h0]
  exact ⟨_, rfl, w, rfl, fun _ => rfl, fun h => absurd h h0⟩
end Go.Proofs.Ytjbafmnocopofaa
end
section
namespace Go.Proofs.Ytjbafmnocopofaa
open Go AW
set_option maxHeartbeats 4000000
abbrev ik (k : Int) : T52 := { Kind := k, Set := Arr.rep 4 0, To := 0, Group := 0, Last := 0, Slot := 0 }
abbrev iTo (k t : Int) : T52 := { Kind := k, Set := Arr.rep 4 0, To := t, Group := 0, Last := 0, Slot := 0 }
abbrev iGr (k g : Int) : T52 := { Kind := k, Set := Arr.rep 4 0, To := 0, Group := g, Last := 0, Slot := 0 }
abbrev iCl (g l : Int) : T52 := { Kind := 6, Set := Arr.rep 4 0, To := 0, Group := g, Last := l, Slot := 0 }
abbrev iSl (k s : Int) : T52 := { Kind := k, Set := Arr.rep 4 0, To := 0, Group := 0, Last := 0, Slot := s }
abbrev iSet (s : Arr 4 Int) : T52 := { Kind := 1, Set := s, To := 0, Group := 0, Last := 0, Slot := 0 }
noncomputable def lh (k : T27) : Int × Int := (F38 k).getD (0, 0)
def clr (l : Int × Int) : List T52 := if l.1 > 0 then [iCl l.1 l.2] else []
def rnd (f : Nat → Nat → List T52) (l : Int × Int) (a fr : Nat) : List T52 := clr l ++ f (a + (clr l).length) fr
def frd (f : Nat → Nat → List T52) (l : Int × Int) (a fr : Nat) : List T52 := iSl 7 fr :: (rnd f l (a + 1) (fr + 1) ++ [iSl 8 fr])
def mins (f : Nat → Nat → List T52) (l : Int × Int) (r fr : Nat) : Nat → Nat → List T52
  | 0, _ => []
  | m + 1, a => rnd f l a fr ++ mins f l r fr m (a + r)
def opts (f : Nat → Nat → List T52) (l : Int × Int) (r fr : Nat) (e : Nat) : Nat → Nat → List T52
  | 0, _ => []
  | m + 1, a => iTo 2 e :: (frd f l (a + 1) fr ++ opts f l r fr e m (a + r + 3))
def repc (f : Nat → Nat → List T52) (l : Int × Int) (r : Nat) (mn mx : Int) (a fr : Nat) : List T52 :=
  mins f l r fr mn.toNat a ++
  if mx = -1 then iTo 2 ((a + mn.toNat * r + r + 4 : Nat) : Int) :: (frd f l (a + mn.toNat * r + 1) fr ++ [iTo 3 ((a + mn.toNat * r : Nat) : Int)])
  else opts f l r fr (a + mn.toNat * r + (mx - mn).toNat * (r + 3)) (mx - mn).toNat (a + mn.toNat * r)
mutual
noncomputable def cd : T27 → Nat → Nat → List T52
  | ⟨k, st, mn, mx, g, o⟩, a, fr =>
    if k = 1 then [] else if k = 2 then [iSet st] else if k = 3 then cdo o a fr else if k = 4 then alo o (a + szo o + 2 * ((ls o).length - 1)) a fr else if k = 5 then rpo o mn mx a fr
    else if k = 6 then iGr 4 g :: (cho o (a + 1) fr ++ [iGr 5 g]) else if k = 7 then [iGr 9 g] else if k = 8 then [ik 10] else if k = 9 then [ik 11] else []
noncomputable def cdo : Option (List T27) → Nat → Nat → List T52
  | none, _, _ => []
  | some l, a, fr => cdl l a fr
noncomputable def cdl : List T27 → Nat → Nat → List T52
  | [], _, _ => []
  | x :: l, a, fr => cd x a fr ++ cdl l (a + sz x) fr
noncomputable def alo : Option (List T27) → Nat → Nat → Nat → List T52
  | none, _, _, _ => []
  | some l, e, a, fr => all l e a fr
noncomputable def all : List T27 → Nat → Nat → Nat → List T52
  | [], _, _, _ => []
  | x :: l, e, a, fr => if l.isEmpty then cd x a fr else iTo 2 ((a + sz x + 2 : Nat) : Int) :: (cd x (a + 1) fr ++ iTo 3 e :: all l e (a + sz x + 2) fr)
noncomputable def rpo : Option (List T27) → Int → Int → Nat → Nat → List T52
  | none, _, _, _, _ => []
  | some l, mn, mx, a, fr => rpl l mn mx a fr
noncomputable def rpl : List T27 → Int → Int → Nat → Nat → List T52
  | [], _, _, _, _ => []
  | x :: _, mn, mx, a, fr => repc (cd x) (lh x) (rsz x) mn mx a fr
noncomputable def cho : Option (List T27) → Nat → Nat → List T52
  | none, _, _ => []
  | some l, a, fr => chl l a fr
noncomputable def chl : List T27 → Nat → Nat → List T52
  | [], _, _ => []
  | x :: _, a, fr => cd x a fr
end
theorem cd_eq (n : T27) (a fr : Nat) : cd n a fr = if n.Kind = 1 then [] else if n.Kind = 2 then [iSet n.Set] else if n.Kind = 3 then cdl (ls n.Kids) a fr else if n.Kind = 4 then all (ls n.Kids) (a + szl (ls n.Kids) + 2 * ((ls n.Kids).length - 1)) a fr else if n.Kind = 5 then rpl (ls n.Kids) n.Min n.Max a fr
    else if n.Kind = 6 then iGr 4 n.Group :: (chl (ls n.Kids) (a + 1) fr ++ [iGr 5 n.Group]) else if n.Kind = 7 then [iGr 9 n.Group] else if n.Kind = 8 then [ik 10] else if n.Kind = 9 then [ik 11] else [] := by
  obtain ⟨k, st, mn, mx, g, o⟩ := n
  rw [cd]
  cases o with
  | none => rfl
  | some l => rfl
mutual
def dep : T27 → Nat
  | ⟨k, _, mn, mx, _, o⟩ => if k = 5 then (if mx = -1 ∨ mn < mx then depo o + 1 else if 0 < mn then depo o else 0) else depo o
def depo : Option (List T27) → Nat
  | none => 0
  | some l => depl l
def depl : List T27 → Nat
  | [] => 0
  | x :: l => max (dep x) (depl l)
end
theorem dep_eq (n : T27) : dep n = if n.Kind = 5 then (if n.Max = -1 ∨ n.Min < n.Max then depl (ls n.Kids) + 1 else if 0 < n.Min then depl (ls n.Kids) else 0) else depl (ls n.Kids) := by
  obtain ⟨_, _, _, _, _, o⟩ := n
  rw [dep]
  cases o with
  | none => rfl
  | some l => rfl
theorem pl_kids {n : T27} (h : pl n = true) : (n.Kind = 3 ∨ n.Kind = 4) ∧ 2 ≤ (ls n.Kids).length ∨ n.Kind = 5 ∧ (0 ≤ n.Min ∧ n.Min ≤ 255 ∧ (n.Max = -1 ∨ n.Min ≤ n.Max ∧ n.Max ≤ 255)) ∧ (ls n.Kids).length = 1 ∨ n.Kind = 6 ∧ (ls n.Kids).length = 1 ∨ (n.Kind = 1 ∨ n.Kind = 2 ∨ n.Kind = 7 ∨ n.Kind = 8 ∨ n.Kind = 9) ∧ (ls n.Kids).length = 0 := by
  unfold pl at h
  simp only [Bool.and_eq_true] at h
  have h1 := h.1.1.1
  split at h1
  · exact .inl ⟨by assumption, by simpa using h1⟩
  split at h1
  · simp only [Bool.and_eq_true, decide_eq_true_eq] at h1
    exact .inr (.inl ⟨by assumption, h1⟩)
  split at h1
  · exact .inr (.inr (.inl ⟨by assumption, by simpa using h1⟩))
  split at h1
  · exact .inr (.inr (.inr ⟨by assumption, by simpa using h1⟩))
  cases h1
theorem f38 {k : T27} {b : Nat} (hc : cnt k ≤ 100000) (h : good k b) : F38 k = some (lh k) ∧ lh k = (glo b (gcnt k), ghi b (gcnt k)) := by
  have : F38 k = some (glo b (gcnt k), ghi b (gcnt k)) := g38 k b hc h
  unfold lh
  rw [this]
  exact ⟨rfl, rfl⟩
theorem clr_len {k : T27} {b : Nat} (hc : cnt k ≤ 100000) (h : good k b) : (clr (lh k)).length = if gcnt k = 0 then 0 else 1 := by
  rw [(f38 hc h).2]
  unfold clr glo
  by_cases h0 : gcnt k = 0
  · simp [h0]
  rw [if_neg h0, if_neg h0, if_pos (show (b : Int) + 1 > 0 by omega)]; rfl
theorem rnd_len {f : Nat → Nat → List T52} {l : Int × Int} {s : Nat} (hf : ∀ a fr, (f a fr).length = s) (a fr : Nat) : (rnd f l a fr).length = s + (clr l).length := by
  unfold rnd; rw [List.length_append, hf]; omega
theorem frd_len {f : Nat → Nat → List T52} {l : Int × Int} {s : Nat} (hf : ∀ a fr, (f a fr).length = s) (a fr : Nat) : (frd f l a fr).length = s + (clr l).length + 2 := by
  unfold frd; rw [List.length_cons, List.length_append, rnd_len hf]; simp
theorem mins_len {f : Nat → Nat → List T52} {l : Int × Int} {s : Nat} (hf : ∀ a fr, (f a fr).length = s) (r fr : Nat) (hr : r = s + (clr l).length) : ∀ m a, (mins f l r fr m a).length = m * r
  | 0, a => by simp [mins]
  | m + 1, a => by rw [mins, List.length_append, rnd_len hf, mins_len hf r fr hr m, Nat.add_mul, ← hr]; omega
theorem opts_len {f : Nat → Nat → List T52} {l : Int × Int} {s : Nat} (hf : ∀ a fr, (f a fr).length = s) (r fr e : Nat) (hr : r = s + (clr l).length) : ∀ m a, (opts f l r fr e m a).length = m * (r + 3)
  | 0, a => by simp [opts]
  | m + 1, a => by rw [opts, List.length_cons, List.length_append, frd_len hf, opts_len hf r fr e hr m, Nat.add_mul, ← hr]; omega
theorem repc_len {f : Nat → Nat → List T52} {l : Int × Int} {s : Nat} (hf : ∀ a fr, (f a fr).length = s) (r : Nat) (hr : r = s + (clr l).length) (mn mx : Int) (a fr : Nat) : (repc f l r mn mx a fr).length = mn.toNat * r + if mx = -1 then r + 4 else (mx - mn).toNat * (r + 3) := by
  unfold repc
  rw [List.length_append, mins_len hf r fr hr]
  split
  · rw [List.length_cons, List.length_append, frd_len hf, ← hr]; simp
  rw [opts_len hf r fr _ hr]
theorem cdl_len : ∀ (l : List T27), (∀ k ∈ l, ∀ a fr, (cd k a fr).length = sz k) → ∀ a fr, (cdl l a fr).length = szl l
  | [], _, a, fr => by rw [cdl, szl]; rfl
  | x :: l, h, a, fr => by rw [cdl, szl, List.length_append, h x (by simp), cdl_len l fun k hk => h k (by simp [hk])]
theorem all_len : ∀ (l : List T27), (∀ k ∈ l, ∀ a fr, (cd k a fr).length = sz k) → ∀ e a fr, (all l e a fr).length = szl l + 2 * (l.length - 1)
  | [], _, e, a, fr => by rw [all, szl]; rfl
  | [x], h, e, a, fr => by rw [all, if_pos (show ([] : List T27).isEmpty = true from rfl), szl, szl, h x (by simp)]; simp
  | x :: y :: l, h, e, a, fr => by
    have e1 : szl (x :: y :: l) = sz x + szl (y :: l) := by rw [szl]
    rw [all, if_neg (by simp), List.length_cons, List.length_append, List.length_cons, h x (by simp), all_len (y :: l) (fun k hk => h k (by simp at hk ⊢; right; exact hk)), e1]
    simp; omega
theorem cd_len : ∀ (n : T27) (b : Nat), cnt n ≤ 100000 → good n b → ∀ a fr, (cd n a fr).length = sz n := by
  intro n
  induction n using tree_ind with
  | h n ih =>
    intro b hc hg a fr
    rw [good_eq] at hg
    have ih' : ∀ k ∈ ls n.Kids, ∀ a fr, (cd k a fr).length = sz k := fun k hk => by
      obtain ⟨b', hb'⟩ := goodl_mem hg.2 hk
      exact ih k hk b' (by have := cnt_kid hk; omega) hb'
    rw [cd_eq, sz_eq]
    rcases pl_kids hg.1.1 with ⟨h, hk⟩ | ⟨h, hm, hk⟩ | ⟨h, hk⟩ | ⟨h, hk⟩
    · rcases h with h | h
      · simp (config := {decide := true}) only [h, if_true, if_false]; exact cdl_len _ ih' _ _
      simp (config := {decide := true}) only [h, if_true, if_false]; exact all_len _ ih' _ _ _
    · obtain ⟨k, hk⟩ : ∃ k, ls n.Kids = [k] := List.length_eq_one_iff.1 hk
      have hkm : k ∈ ls n.Kids := by simp [hk]
      obtain ⟨b', hb'⟩ := goodl_mem hg.2 hkm
      have hcl := clr_len (by have := cnt_kid hkm; omega) hb'
      simp (config := {decide := true}) only [h, if_true, if_false]
      rw [hk, rpl, repc_len (s := sz k) (ih' k hkm) _ (by rw [hcl]; rfl)]
      have e1 : szl [k] = sz k := by rw [szl, szl]; rfl
      have e2 : gcntl [k] = gcnt k := by rw [gcntl, gcntl]; rfl
      rw [e1, e2]; rfl
    · obtain ⟨k, hk⟩ : ∃ k, ls n.Kids = [k] := List.length_eq_one_iff.1 hk
      have hkm : k ∈ ls n.Kids := by simp [hk]
      simp (config := {decide := true}) only [h, if_true, if_false]
      have e1 : szl [k] = sz k := by rw [szl, szl]; rfl
      rw [hk, chl, List.length_cons, List.length_append, ih' k hkm, e1]; simp
    rcases h with h | h | h | h | h <;> simp (config := {decide := true}) only [h, if_true, if_false, List.length_cons, List.length_nil]
end Go.Proofs.Ytjbafmnocopofaa
end
section
namespace Go.Proofs.Ytjbafmnocopofaa
open Go AW
set_option maxHeartbeats 4000000
def intz (L : List Nat) : List Int := L.map fun (n : Nat) => (n : Int)
theorem intz_len (L : List Nat) : (intz L).length = L.length := by simp [intz]
def Co (L : List T52) (s fr : Nat) : T65 := { code := so L, slots := (s : Int), free := (fr : Int) }
theorem co_code (L : List T52) (s fr : Nat) : ls (Co L s fr).code = L := ls_so L
theorem vset_so {α : Type} (L : List α) (i : Nat) (v : α) : vset (so L) (i : Int) v = so (L.set i v) := by cases L <;> simp [so, vset] <;> cases i <;> rfl
theorem f27 (L : List T52) (s fr : Nat) (x : T52) (h : L.length ≤ 100000) : F27 (Co L s fr) x = some ((L.length : Int), Co (L ++ [x]) s fr) := by
  have e : ls (some [x]) = [x] := rfl
  unfold F27
  rw [co_code, if_pos (by rw [e]; simp; omega), e]
  have e2 : sapp (Co L s fr).code [x] = so (L ++ [x]) := sapp_so L [x]
  rw [e2, ls_so, List.length_append, List.length_singleton, wm1 _ (by omega) (by omega)]
  rfl
theorem set_mid {α : Type} (A B : List α) (x y : α) : (A ++ x :: B).set A.length y = A ++ y :: B := by simp
theorem get_mid {α : Type} (A B : List α) (x : α) : (A ++ x :: B)[A.length]? = some x := by simp
def Pn (n : T27) : Prop := ∀ (L : List T52) (s fr : Nat), L.length + sz n ≤ 16384 → fr ≤ L.length → fr ≤ s → G26r (.e26 (Co L s fr) n) = some (Co (L ++ cd n L.length fr) (max s (fr + dep n)) fr)
def Ln (n : T27) : Prop := ∀ a fr, (cd n a fr).length = sz n
theorem p51 (n : T27) (hl : (ls n.Kids).length ≤ 100000) (ih : ∀ k ∈ ls n.Kids, Pn k ∧ Ln k) : ∀ (m i : Nat) (L : List T52) (s fr : Nat), m + i = (ls n.Kids).length → L.length + szl ((ls n.Kids).drop i) ≤ 16384 → fr ≤ L.length → fr ≤ s →
    G26r (.p51_1 n.Kids ((ls n.Kids).length : Int) (i : Int) (Co L s fr)) = some (Co (L ++ cdl ((ls n.Kids).drop i) L.length fr) (max s (fr + depl ((ls n.Kids).drop i))) fr)
  | 0, i, L, s, fr, h, hs, hf, hfs => by
    rw [G26r.eq_3, dfi (by omega), List.drop_of_length_le (by omega), cdl, depl, List.append_nil, Nat.add_zero, Nat.max_eq_left hfs]
  | m + 1, i, L, s, fr, h, hs, hf, hfs => by
    obtain ⟨k, hk⟩ := get_ex (ls n.Kids) (i := i) (by omega)
    obtain ⟨pk, lk⟩ := ih k (List.mem_of_getElem? hk)
    rw [drop_cons hk, szl] at hs
    have hlk := lk L.length fr
    have hll : (L ++ cd k L.length fr).length = L.length + sz k := by rw [List.length_append, hlk]
    rw [G26r.eq_3, dti (by omega), ixs hk, sm, pk L s fr (by omega) hf hfs, sm, wn1 i (by omega), p51 n hl ih m (i + 1) _ _ fr (by omega) (by omega) (by omega) (by omega), drop_cons hk, cdl, depl, hll, List.append_assoc]
    have e : max (max s (fr + dep k)) (fr + depl ((ls n.Kids).drop (i + 1))) = max s (fr + max (dep k) (depl ((ls n.Kids).drop (i + 1)))) := by omega
    rw [e]
def pat (e : Nat) (C : List T52) (p : Nat) : List T52 := match C[p]? with
  | some x => C.set p { x with To := (e : Int) }
  | none => C
theorem pat_len (e : Nat) (C : List T52) (p : Nat) : (pat e C p).length = C.length := by unfold pat; split <;> simp
theorem pat_mid (e : Nat) (A B : List T52) (x : T52) : pat e (A ++ x :: B) A.length = A ++ { x with To := (e : Int) } :: B := by
  unfold pat; rw [get_mid]; simp only; rw [set_mid]
theorem pat_co {C : List T52} {p : Nat} {x : T52} (s fr : Nat) (h : C[p]? = some x) : ({ Co C s fr with code := (vset (Co C s fr).code (p : Int) ({ x with To := (C.length : Int) } : T52)) } : T65) = Co (pat C.length C p) s fr := by
  unfold pat; rw [h]; simp only [Co]; rw [vset_so]
theorem p53_2 (O : List Nat) (hO : O.length ≤ 1000000) : ∀ (m i : Nat) (C : List T52) (s fr : Nat), m + i = O.length → (∀ p ∈ O, p < C.length) →
    G26r (.p53_2 (so (intz O)) (O.length : Int) (i : Int) (Co C s fr)) = some (Co ((O.drop i).foldl (pat C.length) C) s fr)
  | 0, i, C, s, fr, h, hp => by
    rw [G26r.eq_7, dfi (by omega), List.drop_of_length_le (by omega)]; rfl
  | m + 1, i, C, s, fr, h, hp => by
    obtain ⟨p, hpi⟩ := get_ex O (i := i) (by omega)
    obtain ⟨x, hx⟩ := get_ex C (hp p (List.mem_of_getElem? hpi))
    rw [G26r.eq_7, dti (by omega), ls_so, ixs (c := (p : Int)) (by simp [intz, hpi]), sm, co_code, ixs hx, sm, pat_co s fr hx, wn1 i (by omega), p53_2 O hO m (i + 1) _ s fr (by omega) (by simpa [pat_len] using hp), pat_len, drop_cons hpi]; rfl
theorem p54_4 (O : List Nat) (hO : O.length ≤ 1000000) : ∀ (m i : Nat) (C : List T52) (s fr : Nat), m + i = O.length → (∀ p ∈ O, p < C.length) →
    G26r (.p54_4 (so (intz O)) (O.length : Int) (i : Int) (Co C s fr)) = some (Co ((O.drop i).foldl (pat C.length) C) s fr)
  | 0, i, C, s, fr, h, hp => by
    rw [G26r.eq_12, dfi (by omega), List.drop_of_length_le (by omega)]; rfl
  | m + 1, i, C, s, fr, h, hp => by
    obtain ⟨p, hpi⟩ := get_ex O (i := i) (by omega)
    obtain ⟨x, hx⟩ := get_ex C (hp p (List.mem_of_getElem? hpi))
    rw [G26r.eq_12, dti (by omega), ls_so, ixs (c := (p : Int)) (by simp [intz, hpi]), sm, co_code, ixs hx, sm, pat_co s fr hx, wn1 i (by omega), p54_4 O hO m (i + 1) _ s fr (by omega) (by simpa [pat_len] using hp), pat_len, drop_cons hpi]; rfl
noncomputable def alf : List T27 → Nat → Nat → Nat → List T52
  | [], _, _, _ => []
  | x :: l, e, a, fr => iTo 2 ((a + sz x + 2 : Nat) : Int) :: (cd x (a + 1) fr ++ iTo 3 e :: alf l e (a + sz x + 2) fr)
def jps : List T27 → Nat → List Nat
  | [], _ => []
  | x :: l, a => (a + sz x + 1) :: jps l (a + sz x + 2)
theorem jps_len : ∀ (l : List T27) a, (jps l a).length = l.length
  | [], _ => rfl
  | x :: l, a => by rw [jps, List.length_cons, jps_len l, List.length_cons]
theorem alf_len : ∀ (l : List T27), (∀ k ∈ l, Ln k) → ∀ e a fr, (alf l e a fr).length = szl l + 2 * l.length
  | [], _, e, a, fr => by rw [alf, szl]; rfl
  | x :: l, h, e, a, fr => by
    rw [alf, List.length_cons, List.length_append, List.length_cons, h x (by simp), alf_len l (fun k hk => h k (by simp [hk])), szl]
    simp; omega
theorem all_front : ∀ (l : List T27) (k : T27) (e a fr : Nat), all (l ++ [k]) e a fr = alf l e a fr ++ cd k (a + szl l + 2 * l.length) fr
  | [], k, e, a, fr => by
    rw [List.nil_append, all, if_pos (show ([] : List T27).isEmpty = true from rfl), alf, szl]; rfl
  | x :: l, k, e, a, fr => by
    rw [List.cons_append, all, if_neg (by simp), all_front l k, alf, szl]
    have e1 : a + sz x + 2 + szl l + 2 * l.length = a + (sz x + szl l) + 2 * (x :: l).length := by simp; omega
    rw [e1]; simp
theorem jps_lt : ∀ (l : List T27) (a : Nat), ∀ p ∈ jps l a, p < a + szl l + 2 * l.length
  | [], a, p, h => by simp [jps] at h
  | x :: l, a, p, h => by
    rw [jps] at h
    rw [szl, List.length_cons]
    rcases List.mem_cons.1 h with rfl | h
    · omega
    have := jps_lt l _ p h; omega
theorem alf_pat (e e0 fr : Nat) : ∀ (l : List T27), (∀ k ∈ l, Ln k) → ∀ (A B : List T52), (jps l A.length).foldl (pat e) (A ++ (alf l e0 A.length fr ++ B)) = A ++ (alf l e A.length fr ++ B)
  | [], _, A, B => by rw [jps, alf, alf]; rfl
  | x :: l, h, A, B => by
    have hx := h x (by simp) (A.length + 1) fr
    rw [jps, alf, alf, List.foldl_cons]
    have e1 : A ++ (iTo 2 ((A.length + sz x + 2 : Nat) : Int) :: (cd x (A.length + 1) fr ++ iTo 3 e0 :: alf l e0 (A.length + sz x + 2) fr) ++ B) = (A ++ iTo 2 ((A.length + sz x + 2 : Nat) : Int) :: cd x (A.length + 1) fr) ++ iTo 3 e0 :: (alf l e0 (A.length + sz x + 2) fr ++ B) := by simp
    have e2 : A.length + sz x + 1 = (A ++ iTo 2 ((A.length + sz x + 2 : Nat) : Int) :: cd x (A.length + 1) fr).length := by simp [hx]; omega
    rw [e1, e2, pat_mid]
    have e3 : (A ++ iTo 2 ((A.length + sz x + 2 : Nat) : Int) :: cd x (A.length + 1) fr) ++ iTo 3 e :: (alf l e0 (A.length + sz x + 2) fr ++ B) = (A ++ iTo 2 ((A.length + sz x + 2 : Nat) : Int) :: (cd x (A.length + 1) fr ++ [iTo 3 e])) ++ (alf l e0 (A.length + sz x + 2) fr ++ B) := by simp
    have e4 : A.length + sz x + 2 = (A ++ iTo 2 ((A.length + sz x + 2 : Nat) : Int) :: (cd x (A.length + 1) fr ++ [iTo 3 e])).length := by simp [hx]; omega
    have ihh := alf_pat e e0 fr l (fun k hk => h k (by simp [hk])) (A ++ iTo 2 ((A.length + sz x + 2 : Nat) : Int) :: (cd x (A.length + 1) fr ++ [iTo 3 e])) B
    rw [← e4] at ihh
    have e5 : (({ iTo 3 e0 with To := (e : Int) } : T52)) = iTo 3 e := rfl
    rw [e5, e3, ihh]
    simp
theorem depl_app : ∀ (l : List T27) (k : T27), depl (l ++ [k]) = max (depl l) (dep k)
  | [], k => by simp [depl]
  | x :: l, k => by rw [List.cons_append, depl, depl_app l, depl]; omega
theorem szl_app : ∀ (l : List T27) (k : T27), szl (l ++ [k]) = szl l + sz k
  | [], k => by simp [szl]
  | x :: l, k => by rw [List.cons_append, szl, szl_app l, szl]; omega
theorem p53_1 (n : T27) (last : Int) (W : Sl T27) (F : List T27) (hW : ls W = F) (hl : F.length ≤ 100000) (ih : ∀ k ∈ F, Pn k ∧ Ln k) : ∀ (m i : Nat) (L : List T52) (s fr : Nat) (O : List Nat), m + i = F.length → L.length + szl (F.drop i) + 2 * (F.drop i).length ≤ 16384 → fr ≤ L.length → fr ≤ s → O.length ≤ i →
    G26r (.p53_1 n last W (F.length : Int) (i : Int) (Co L s fr) (so (intz O))) = (ix (ls n.Kids) last >>= fun v => G26r (.e26 (Co (L ++ alf (F.drop i) 0 L.length fr) (max s (fr + depl (F.drop i))) fr) v) >>= fun r => G26r (.p53_2 (so (intz (O ++ jps (F.drop i) L.length))) ((O ++ jps (F.drop i) L.length).length : Int) 0 r))
  | 0, i, L, s, fr, O, h, hs, hf, hfs, hO => by
    rw [G26r.eq_6, dfi (by omega), List.drop_of_length_le (by omega), alf, depl, jps, List.append_nil, List.append_nil, Nat.add_zero, Nat.max_eq_left hfs, ls_so, intz_len]
  | m + 1, i, L, s, fr, O, h, hs, hf, hfs, hO => by
    obtain ⟨k, hk⟩ := get_ex F (i := i) (by omega)
    obtain ⟨pk, lk⟩ := ih k (List.mem_of_getElem? hk)
    have hdl : (F.drop i).length = (F.drop (i + 1)).length + 1 := by rw [drop_cons hk, List.length_cons]
    rw [hdl, drop_cons hk, szl] at hs
    have h1 : (L ++ [ik 2]).length = L.length + 1 := by simp
    have h2 : (L ++ [ik 2] ++ cd k (L.length + 1) fr).length = L.length + 1 + sz k := by rw [List.length_append, h1, lk]
    have e0 : ls (some [((L.length + 1 + sz k : Nat) : Int)]) = intz [L.length + 1 + sz k] := rfl
    have e1 : (so (intz O) : Sl Int) = so (intz O) := rfl
    rw [G26r.eq_6, dti (by omega), hW, ixs hk, sm, f27 L s fr _ (by omega), sm, pk (L ++ [ik 2]) s fr (by rw [h1]; omega) (by rw [h1]; omega) hfs, sm, h1, f27 (L ++ [ik 2] ++ cd k (L.length + 1) fr) _ _ _ (by rw [h2]; omega), sm, h2]
    rw [if_pos (by rw [ls_so]; simp [intz, ls]; omega), co_code]
    have e2 : L ++ [ik 2] ++ cd k (L.length + 1) fr ++ [ik 3] = L ++ ik 2 :: (cd k (L.length + 1) fr ++ [ik 3]) := by simp
    have e3 : (L ++ ik 2 :: (cd k (L.length + 1) fr ++ [ik 3])).length = L.length + sz k + 2 := by rw [List.length_append, List.length_cons, List.length_append, lk]; simp; omega
    simp only [e2]
    rw [ixs (get_mid L _ (ik 2)), sm, pat_co _ _ (get_mid L _ (ik 2)), e3, pat_mid, e0, sapp_so, wn1 i (by omega)]
    have e4 : intz O ++ intz [L.length + 1 + sz k] = intz (O ++ [L.length + 1 + sz k]) := by simp [intz]
    have e5 : (({ ik 2 with To := ((L.length + sz k + 2 : Nat) : Int) } : T52)) = iTo 2 ((L.length + sz k + 2 : Nat) : Int) := rfl
    have e6 : (L ++ iTo 2 ((L.length + sz k + 2 : Nat) : Int) :: (cd k (L.length + 1) fr ++ [ik 3])).length = L.length + sz k + 2 := by rw [List.length_append, List.length_cons, List.length_append, lk]; simp; omega
    rw [e4, e5, p53_1 n last W F hW hl ih m (i + 1) _ _ fr _ (by omega) (by omega) (by omega) (by omega) (by simp; omega), drop_cons hk, alf, depl, jps, e6]
    have e7 : L ++ iTo 2 ((L.length + sz k + 2 : Nat) : Int) :: (cd k (L.length + 1) fr ++ [ik 3]) ++ alf (F.drop (i + 1)) 0 (L.length + sz k + 2) fr = L ++ iTo 2 ((L.length + sz k + 2 : Nat) : Int) :: (cd k (L.length + 1) fr ++ iTo 3 ((0 : Nat) : Int) :: alf (F.drop (i + 1)) 0 (L.length + sz k + 2) fr) := by simp
    have e8 : O ++ [L.length + 1 + sz k] ++ jps (F.drop (i + 1)) (L.length + sz k + 2) = O ++ (L.length + sz k + 1) :: jps (F.drop (i + 1)) (L.length + sz k + 2) := by simp; omega
    have e9 : max (max s (fr + dep k)) (fr + depl (F.drop (i + 1))) = max s (fr + max (dep k) (depl (F.drop (i + 1)))) := by omega
    rw [e7, e8, e9]
end Go.Proofs.Ytjbafmnocopofaa
end
