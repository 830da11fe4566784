/-
  Texts of this proof, put together: D4, D5, D6, D7, PlA, NfS1, NfS2, NfS3, NfS4, NfS5, NfS6, NfA, NfS7, NfC, NfD, NfE.
-/
import Derived.Test.YtcidnoghoifmmaaDoorPk34
import Derived.Test.YtcidnoghoifmmaaDoorPk33
section
/-
  Functions of the program's as plain functions.
-/

set_option linter.unusedVariables false
set_option linter.unusedSimpArgs false
set_option maxRecDepth 4000
set_option maxHeartbeats 4000000
namespace Go.Proofs.YtcidnoghoifmmaaDoor
open Go AW
attribute [local irreducible] W WD SH XS XLoop DFun XCall XYield
def C63_1 : ACode := .s (.ops [q 2 (.mv (ki 0))]) (.s (.s (.ops [q 3 (.mv 0)]) (.cond 3 (.s (.ops [q 2 (.mv (ki 1))]) .ret) .skip)) (.s (.ops [q 2 (.mv (ki 0))]) .ret))
def R63 : List RA := [(.tmp 2)]
theorem k63 : compF Tryd.prog (muL []) 63 = some ⟨4, C63_1, R63⟩ := by kernel_rfl
noncomputable abbrev X63 (r : Int) : Cx := cD Tryd.prog gE 4 R63 (AV.int .i64 r)
noncomputable def F63 (b : Bool) : Option Int := (if b = true then (some 1) else (some 0))
theorem d63 (b : Bool) (r : Int) (hF : F63 b = some r) : DFun Tryd.prog gE 63 [AV.bool b] (AV.int .i64 r) := by
 unfold F63 at hF
 refine bD k63 rfl ?_
 have hs : SH [] [] := SH.nil
 generalize ([] : Store) = st at hs ⊢
 refine rn 2 rfl ?_
 refine ci hF rfl (fun c_1 hF => ?_) (fun c_1 hF => ?_)
 · refine rn 1 rfl ?_
   cases hF
   exact rD (rlt rl0) rfl
 · refine rn 1 rfl ?_
   cases hF
   exact rD (rlt rl0) rfl
def C58_1 : ACode := .s (.ops [q 4 (.load1 1), q 5 (.mv 0), q 6 (.iaddrL 1 4 5), q 7 (.load1 6), q 8 (.un .not 7)]) (.cond 8 (.s (.ops [q 9 (.load1 1), q 10 (.mv 0), q 11 (.iaddrL 1 9 10), q0 (.store 1 11 (.c (.bool true)))]) (.ops [q 12 (.load1 2), q 13 (.mv 0), q 14 (.bslice 1 1 false [(.int .i64 0)] [(0, (1, 13))] false), q 15 (.app 1 8 12 14), q0 (.store 1 2 15)])) .skip)
def R58 : List RA := []
theorem k58 : compF Tryd.prog (muL []) 58 = some ⟨16, C58_1, R58⟩ := by kernel_rfl
noncomputable abbrev X58 (K : AV → Store → Prop) : Cx := cK Tryd.prog gE 16 R58 (isK K)
noncomputable def F58 (i : Int) (q0_ : Sl Bool) (q1_ : Sl Int) : Option (Sl Bool × Sl Int) := (ix (ls q0_) i >>= fun v_2 => (if (!v_2) = true then (ix (ls q0_) i >>= fun v_5 => (if ((ls q1_).length + (ls (some ([i] : List Int))).length) * 8 ≤ 140737488355328 then (some ((vset q0_ i true), sapp q1_ (ls (some ([i] : List Int))))) else none)) else (some (q0_, q1_))))
theorem d58 (i : Int) (q0_ : Sl Bool) (q1_ : Sl Int) (r : Sl Bool × Sl Int) (hF : F58 i q0_ q1_ = some r) : ∀ (K : AV → Store → Prop) (Ls : List Asn) (iQ0 : Nat) (iQ1 : Nat), (∀ st, SH st (bx88_r iQ0 r.1 :: bx58_o iQ1 r.2 :: Ls) → K (AV.tup []) st) → ∀ (st : Store), SH st (bx88_r iQ0 q0_ :: bx58_o iQ1 q1_ :: Ls) → XCall Tryd.prog gE 58 [AV.int .i64 i, .ptr iQ0 0, .ptr iQ1 0] st K := by
 unfold F58 at hF
 intro K Ls iQ0 iQ1 hK  st hs
 refine bS k58 rfl ?_
 obtain ⟨j_1, hs⟩ := SH.bx1o hs
 refine rn 0 rfl ?_
 refine W.o (l1 rfl (hs.g 0 rfl) rfl) ?_
 obtain ⟨v_2, g_3, hF⟩ := bind_some hF
 refine rn 1 rfl ?_
 refine W.o (e_iaddrV hs 1 rfl rfl rfl g_3) ?_
 refine W.o (e_load1 rfl (SH.gv hs 1 rfl g_3) (LR.cast (LR.comp (LR.whole _ _) (lrV_get cB_len g_3)) (by omega))) ?_
 refine rn 1 rfl ?_
 refine ci hF rfl (fun c_4 hF => ?_) (fun c_4 hF => ?_)
 · refine rn 0 rfl ?_
   refine W.o (l1 rfl (hs.g 0 rfl) rfl) ?_
   obtain ⟨v_5, g_6, hF⟩ := bind_some hF
   refine rn 1 rfl ?_
   refine W.o (e_iaddrV hs 1 rfl rfl rfl g_6) ?_
   refine slv hs 1 rfl rfl g_6 rfl (LR.cast (LR.comp (LR.whole _ _) (lrV_set cB_len g_6 true)) (by omega)) (cB_len _) rfl (cB_len _) (cB_one _) rfl fun st hs => ?_
   have hs := hs.cong 0 rfl (cs' := [rvV 1 (vset q0_ i true) j_1]) (by simp only [rvV_vset]) rfl
   have hs := (hs.p 3 [2, 0, 0] rfl)
   obtain ⟨j_7, hs⟩ := SH.bx1o hs
   refine rn 0 rfl ?_
   refine W.o (l1 rfl (hs.g 0 rfl) rfl) ?_
   refine rn 1 rfl ?_
   refine bs (f := AV.int .i64) ([i] : List Int) hs rfl rfl rfl rfl fun st b_8 hs => ?_
   obtain ⟨g_9, hF⟩ := grd_some hF
   refine ap (ys := ls (some ([i] : List Int))) hs 2 rfl rfl (ae_rd (rd_W (o := (some ([i] : List Int))) (id := b_8) rfl)) g_9 (fun _ => rfl) fun st b_10 hs => ?_
   refine so hs 1 rfl rfl rfl ownV_c rfl (cs' := [ownV 1 (AV.int .i64) (sapp q1_ (ls (some ([i] : List Int)))) b_10]) rfl rfl fun st hs => ?_
   refine rn 0 rfl ?_
   have hs : SH st (bx58_o iQ1 (sapp q1_ (ls (some ([i] : List Int)))) :: _) := SH.bx1c b_10 (hs.p 5 [1, 1, 0, 0, 0] rfl)
   have hs : SH st (bx88_r iQ0 (vset q0_ i true) :: _) := SH.bx1c j_1 (hs.p 4 [2, 2, 0, 0] rfl)
   cases hF
   exact eS rl0 (hK _ (hs.p 3 [0, 0] rfl)) rfl
 · refine rn 0 rfl ?_
   have hs : SH st (bx88_r iQ0 q0_ :: _) := SH.bx1c j_1 (hs.p 3 [0, 0, 0] rfl)
   cases hF
   exact eS rl0 (hK _ hs) rfl
def C41_20 : ACode := .s (.ops [q 24 (.iaddrL 1 20 22), q 25 (.load1 24), q 8 (.mv 25)]) (.ops [q 26 (.load1 5), q 27 (.mv 8), q 28 (.iaddrL 1 26 27), q0 (.store 1 28 (.c (.bool true)))])
def C41_12 : ACode := .s (.ops [q 23 (.binI .lss 22 21)]) (.s (.cond 23 .skip (.exit 0)) (.s (.block 1 C41_20) (.ops [q 29 (.binI .add 22 (ki 1)), q 22 (.mv 29)])))
def C41_34 : ACode := .cond 34 .skip (.exit 2)
def C41_31 : ACode := .s (.s (.ops [q 31 (.mv 10), q 32 (.load1 6), q 33 (.len 32), q 34 (.binI .lss 31 33)]) C41_34) (.s (.block 3 (.s (.draw [] 0 1 [q 37 (.faddr 2 2), q 38 (.load1 37), q 39 (.load1 6), q 40 (.mv 10), q 41 (.iaddrL 1 39 40), q 42 (.load1 41), q 43 (.iaddrL 9 38 42), q 44 (.loadN 9 43), q 11 (.alloc [(.int .u8 0), (.int .u64 0), (.int .u64 0), (.int .u64 0), (.int .u64 0), (.int .i64 0), (.int .i64 0), (.int .i64 0), (.int .i64 0)])] [q0 (.store 9 11 44)]) (.s (.ops [q 45 (.faddr 0 11), q 46 (.load1 45)]) (.block 4 (.s (.s (.ops [q 55 (.binI .eql 46 (ku 1)), q 54 (.mv 55)]) (.cond 54 .skip (.ops [q 56 (.binI .eql 46 (ku 12)), q 54 (.mv 56)]))) (.cond 54 .skip (.s (.ops [q 58 (.binI .eql 46 (ku 2)), q 57 (.mv 58)]) (.cond 57 (.s (.ops [q 59 (.mv 9), q 60 (.load1 6), q 61 (.mv 10), q 62 (.iaddrL 1 60 61), q 63 (.load1 62), q 64 (.binI .add 63 (ki 1)), qf 65 59 [64]]) (.ops [q 66 (.mv 9), q 67 (.faddr 5 11), q 68 (.load1 67), qf 69 66 [68]])) (.s (.ops [q 71 (.binI .eql 46 (ku 3)), q 70 (.mv 71)]) (.cond 70 (.ops [q 72 (.mv 9), q 73 (.faddr 5 11), q 74 (.load1 73), qf 75 72 [74]]) (.ops [q 47 (.mv 9), q 48 (.load1 6), q 49 (.mv 10), q 50 (.iaddrL 1 48 49), q 51 (.load1 50), q 52 (.binI .add 51 (ki 1)), qf 53 47 [52]]))))))))))) (.ops [q 35 (.mv 10), q 36 (.binI .add 35 (ki 1)), q 10 (.mv 36)]))
def C41_84 : ACode := .ops [q 102 (.mv 12), q 103 (.mv 13), q 104 (.bslice 1 1 false [(.int .i64 0)] [(0, (1, 103))] false), q 105 (.app 1 8 102 104), q 12 (.mv 105)]
def C41_86 : ACode := .ops [q 106 (.binI .add 78 (ki 1)), q 78 (.mv 106)]
def C41_71 : ACode := .s (.ops [q 79 (.binI .lss 78 77)]) (.s (.cond 79 .skip (.exit 5)) (.s (.block 6 (.s (.ops [q 80 (.mv 78), q 81 (.iaddrL 1 76 78), q 82 (.load1 81), q 13 (.mv 80), q 14 (.mv 82)]) (.s (.ops [q 83 (.mv 14), q 84 (.mv 83), (q 85 (.faddr 2 2)).y 84, (q 86 (.load1 85)).y 84, (q 87 (.mv 13)).y 84, (q 88 (.iaddrL 9 86 87)).y 84, (q 89 (.faddr 0 88)).y 84, (q 90 (.load1 89)).y 84, (q 91 (.binI .eql 90 (ku 1))).y 84, (q 92 (.mv 91)).y 84, (q 93 (.faddr 2 2)).n 92, (q 94 (.load1 93)).n 92, (q 95 (.mv 13)).n 92, (q 96 (.iaddrL 9 94 95)).n 92, (q 97 (.faddr 0 96)).n 92, (q 98 (.load1 97)).n 92, (q 99 (.binI .eql 98 (ku 12))).n 92, (q 100 (.pick 92 (.c (.bool true)) 99)).y 84, q 101 (.pick 84 100 (.c (.bool false)))]) (.cond 101 C41_84 .skip)))) C41_86))
def C41_87 : ACode := .s (.ops [q 107 (.mv 12), q 4 (.mv 107)]) .ret
def C41_64 : ACode := .s (.ops [q 12 (.mv (.c .nils))]) (.s (.s (.ops [q 76 (.load1 5), q 77 (.len 76), q 78 (.mv (ki 0))]) (.block 5 (.loop C41_71))) C41_87)
def C41_24 : ACode := .s (.ops [q 30 (.mkfn 58 [5, 6]), q 9 (.mv 30)]) (.s (.s (.ops [q 10 (.mv (ki 0))]) (.block 2 (.loop C41_31))) C41_64)
def C41_1 : ACode := .s (.ops [q 2 (.boxD 3 0), q 4 (.mv (.c .nils))]) (.s (.ops [q 15 (.faddr 2 2), q 16 (.load1 15), q 17 (.len 16), q 18 (.mkslice 1 1 [(.bool false)] 17 17 true), q 5 (.alloc [.nils]), q0 (.store 1 5 18)]) (.s (.ops [q 19 (.mv 1), q 6 (.alloc [.nils]), q0 (.store 1 6 19)]) (.s (.s (.ops [q 20 (.mv 1), q 21 (.len 20), q 22 (.mv (ki 0))]) (.block 0 (.loop C41_12))) C41_24)))
def R41 : List RA := [(.tmp 4)]
theorem k41 : compF Tryd.prog (muL [2, 18]) 41 = some ⟨108, C41_1, R41⟩ := by kernel_rfl
noncomputable abbrev X41 (K : AV → Store → Prop) : Cx := cK Tryd.prog gE 108 R41 (isK K) [2, 18]
inductive St41 where
 | p1 (p : T45) (t20_ : Sl Int) (t21_ : Int) (t22_ : Int) (in_ : Sl Bool) (todo : Sl Int)
 | p2 (p : T45) (k : Int) (in_ : Sl Bool) (todo : Sl Int)
 | p3 (p : T45) (t76_ : Sl Bool) (t77_ : Int) (t78_ : Int) (out : Sl Int)
 | p4 (p : T45) (i : Int) (t76_ : Sl Bool) (t77_ : Int) (t78_ : Int) (out : Sl Int)
noncomputable def G41 : St41 → Option (Sl Int) | .p1 p t20_ t21_ t22_ in_ todo => (if (decide (t22_ < t21_)) = true then (ix (ls t20_) t22_ >>= fun v_8 => (ix (ls in_) v_8 >>= fun v_11 => (G41 (.p1 p t20_ t21_ (IntKind.wrap .i64 (t22_ + 1)) (vset in_ v_8 true) todo)))) else (G41 (.p2 p 0 in_ todo))) | .p2 p k in_ todo => (if (decide (k < ((ls todo).length : Int))) = true then (ix (ls todo) k >>= fun v_17 => (ix (ls p.Code) v_17 >>= fun v_19 => (if (v_19.Kind == 1) = true then (G41 (.p2 p (IntKind.wrap .i64 (k + 1)) in_ todo)) else (if (v_19.Kind == 12) = true then (G41 (.p2 p (IntKind.wrap .i64 (k + 1)) in_ todo)) else (if (v_19.Kind == 2) = true then (ix (ls todo) k >>= fun v_25 => (F58 (IntKind.wrap .i64 (v_25 + 1)) in_ todo >>= fun r_27 => (F58 v_19.To r_27.1 r_27.2 >>= fun r_29 => (G41 (.p2 p (IntKind.wrap .i64 (k + 1)) r_29.1 r_29.2))))) else (if (v_19.Kind == 3) = true then (F58 v_19.To in_ todo >>= fun r_32 => (G41 (.p2 p (IntKind.wrap .i64 (k + 1)) r_32.1 r_32.2))) else (ix (ls todo) k >>= fun v_34 => (F58 (IntKind.wrap .i64 (v_34 + 1)) in_ todo >>= fun r_36 => (G41 (.p2 p (IntKind.wrap .i64 (k + 1)) r_36.1 r_36.2)))))))))) else (G41 (.p3 p in_ ((ls in_).length : Int) 0 none))) | .p3 p t76_ t77_ t78_ out => (if (decide (t78_ < t77_)) = true then (ix (ls t76_) t78_ >>= fun v_41 => (if v_41 = true then (ix (ls p.Code) t78_ >>= fun v_44 => (if (v_44.Kind == 1) = true then (G41 (.p4 p t78_ t76_ t77_ t78_ out)) else (ix (ls p.Code) t78_ >>= fun v_47 => (if (v_47.Kind == 12) = true then (G41 (.p4 p t78_ t76_ t77_ t78_ out)) else (G41 (.p3 p t76_ t77_ (IntKind.wrap .i64 (t78_ + 1)) out)))))) else (G41 (.p3 p t76_ t77_ (IntKind.wrap .i64 (t78_ + 1)) out)))) else (some out)) | .p4 p i t76_ t77_ t78_ out => (if ((ls out).length + (ls (some ([i] : List Int))).length) * 8 ≤ 140737488355328 then (G41 (.p3 p t76_ t77_ (IntKind.wrap .i64 (t78_ + 1)) (sapp out (ls (some ([i] : List Int)))))) else none) partial_fixpoint
def M41 (x : St41) (r : Sl Int) : Prop := match x with | .p1 p t20_ t21_ t22_ in_ todo => ∀ (K : AV → Store → Prop) (Ls : List Asn) (iP0 : Nat), (∀ st, SH st (Ls) → K (slV 1 (AV.int .i64) r) st) → ∀ (tm : Fr) (st : Store) (io0 : Nat) (io1 : Nat), Frm tm [(2, .dptr (c45 p)), (5, .ptr io0 0), (6, .ptr io1 0), (20, slV 1 (AV.int .i64) t20_), (21, AV.int .i64 t21_), (22, AV.int .i64 t22_)] → SH st (bx88_r io0 in_ :: bx58_o io1 todo :: Ls) → W (X41 K) [.lp C41_12, .blk 0, .code C41_24] tm st | .p2 p k in_ todo => ∀ (K : AV → Store → Prop) (Ls : List Asn) (iP0 : Nat), (∀ st, SH st (Ls) → K (slV 1 (AV.int .i64) r) st) → ∀ (tm : Fr) (st : Store) (io0 : Nat) (io1 : Nat), Frm tm [(2, .dptr (c45 p)), (5, .ptr io0 0), (6, .ptr io1 0), (9, .fn 58 [.ptr io0 0, .ptr io1 0]), (10, AV.int .i64 k)] → SH st (bx88_r io0 in_ :: bx58_o io1 todo :: Ls) → W (X41 K) [.lp C41_31, .blk 2, .code C41_64] tm st | .p3 p t76_ t77_ t78_ out => ∀ (K : AV → Store → Prop) (Ls : List Asn) (iP0 : Nat), (∀ st, SH st (Ls) → K (slV 1 (AV.int .i64) r) st) → ∀ (tm : Fr) (st : Store) (io0 : Nat), Frm tm [(2, .dptr (c45 p)), (12, ownV 1 (AV.int .i64) out io0), (76, slV 1 AV.bool t76_), (77, AV.int .i64 t77_), (78, AV.int .i64 t78_)] → SH st (ownA io0 out :: Ls) → W (X41 K) [.lp C41_71, .blk 5, .code C41_87] tm st | .p4 p i t76_ t77_ t78_ out => ∀ (K : AV → Store → Prop) (Ls : List Asn) (iP0 : Nat), (∀ st, SH st (Ls) → K (slV 1 (AV.int .i64) r) st) → ∀ (tm : Fr) (st : Store) (io0 : Nat), Frm tm [(2, .dptr (c45 p)), (12, ownV 1 (AV.int .i64) out io0), (13, AV.int .i64 i), (76, slV 1 AV.bool t76_), (77, AV.int .i64 t77_), (78, AV.int .i64 t78_)] → SH st (ownA io0 out :: Ls) → W (X41 K) [.code C41_84, .blk 6, .code C41_86, .lp C41_71, .blk 5, .code C41_87] tm st
theorem w41 : ∀ (x : St41) (r : Sl Int), G41 x = some r → M41 x r := by
 refine G41.partial_correctness (M41) ?_
 intro g ih x r hF
 cases x with
 | p1 p t20_ t21_ t22_ in_ todo =>
  dsimp only at hF
  intro K Ls iP0 hK tm st io0 io1 hf hs
  refine en hf ?_
  refine lp ?_
  refine rn 1 rfl ?_
  refine ci hF rfl (fun c_7 hF => ?_) (fun c_7 hF => ?_)
  · obtain ⟨v_8, g_9, hF⟩ := bind_some hF
    refine rn 0 rfl ?_
    refine W.o (e_iaddrL (rd_V rfl) rfl g_9) ?_
    refine W.o (l1D rfl rfl) ?_
    obtain ⟨j_10, hs⟩ := SH.bx1o hs
    refine rn 1 rfl ?_
    refine W.o (l1 rfl (hs.g 0 rfl) rfl) ?_
    obtain ⟨v_11, g_12, hF⟩ := bind_some hF
    refine rn 1 rfl ?_
    refine W.o (e_iaddrV hs 1 rfl rfl rfl g_12) ?_
    refine slv hs 1 rfl rfl g_12 rfl (LR.cast (LR.comp (LR.whole _ _) (lrV_set cB_len g_12 true)) (by omega)) (cB_len _) rfl (cB_len _) (cB_one _) rfl fun st hs => ?_
    have hs := hs.cong 0 rfl (cs' := [rvV 1 (vset in_ v_8 true) j_10]) (by simp only [rvV_vset]) rfl
    refine rn 2 rfl ?_
    have hs : SH st (bx88_r io0 (vset in_ v_8 true) :: _) := SH.bx1c j_10 (hs.p 3 [0, 0, 0] rfl)
    exact ih (.p1 p t20_ t21_ (IntKind.wrap .i64 (t22_ + 1)) (vset in_ v_8 true) todo) _ hF K Ls iP0 hK _ _ io0 io1 ⟨rfl, rfl, rfl, rfl, rfl, rfl, trivial⟩ hs
  · refine rn 3 rfl ?_
    exact ih (.p2 p 0 in_ todo) _ hF K Ls iP0 hK _ _ io0 io1 ⟨rfl, rfl, rfl, rfl, rfl, trivial⟩ hs
 | p2 p k in_ todo =>
  dsimp only at hF
  intro K Ls iP0 hK tm st io0 io1 hf hs
  refine en hf ?_
  refine lp ?_
  have hs := (hs.p 2 [1, 0] rfl)
  obtain ⟨j_13, hs⟩ := SH.bx1o hs
  refine rn 1 rfl ?_
  refine W.o (l1 rfl (hs.g 0 rfl) rfl) ?_
  refine W.o (e_len (rd_W (o := todo) (id := j_13) rfl)) ?_
  refine rn 1 rfl ?_
  refine ci hF rfl (fun c_14 hF => ?_) (fun c_14 hF => ?_)
  · refine rn 0 rfl ?_
    refine drn hs fun s_15 st h0 hs => ?_
    refine de rfl (e_faddrD rfl) ?_
    refine de rfl (l1D rfl (by first | rfl | (rw [slV_cells]; rfl))) ?_
    refine de rfl (l1 rfl (h0.g 0 rfl) rfl) ?_
    obtain ⟨v_17, g_18, hF⟩ := bind_some hF
    refine dn 1 rfl ?_
    refine de rfl (e_iaddrL (rd_W (o := todo) (id := j_13) rfl) rfl g_18) ?_
    refine de rfl (l1D rfl rfl) ?_
    obtain ⟨v_19, g_20, hF⟩ := bind_some hF
    refine de rfl (e_iaddrL (rd_V rfl) rfl g_20) ?_
    refine de rfl (lND (s := c76 v_19) rfl rfl rfl) ?_
    refine dal hs 0 (cs := c76 ({ Kind := 0, Set := (Arr.rep 4 (0 : Int)), To := 0, Group := 0, Last := 0, Slot := 0 } : T76)) rfl rfl rfl fun st hs => ?_
    refine dz ?_
    refine sr hs 0 rfl rfl rfl (cs' := c76 v_19) rfl rfl fun st hs => ?_
    refine rn 0 rfl ?_
    refine W.o (e_faddr rfl (hs.g 0 rfl)) ?_
    refine W.o (l1 rfl (hs.g 0 rfl) rfl) ?_
    refine rn 2 rfl ?_
    refine ci hF rfl (fun c_22 hF => ?_) (fun c_22 hF => ?_)
    · refine rn 0 rfl ?_
      refine ct rfl c_22 ?_
      refine rn 3 rfl ?_
      have hs : SH st (bx58_o io1 todo :: _) := SH.bx1c j_13 (hs.p 4 [1, 1, 0, 0] rfl)
      exact ih (.p2 p (IntKind.wrap .i64 (k + 1)) in_ todo) _ hF K Ls iP0 hK _ _ io0 io1 ⟨rfl, rfl, rfl, rfl, rfl, trivial⟩ (hs.p 3 [2, 0] rfl)
    · refine rn 2 rfl ?_
      refine ci hF rfl (fun c_23 hF => ?_) (fun c_23 hF => ?_)
      · refine rn 3 rfl ?_
        have hs : SH st (bx58_o io1 todo :: _) := SH.bx1c j_13 (hs.p 4 [1, 1, 0, 0] rfl)
        exact ih (.p2 p (IntKind.wrap .i64 (k + 1)) in_ todo) _ hF K Ls iP0 hK _ _ io0 io1 ⟨rfl, rfl, rfl, rfl, rfl, trivial⟩ (hs.p 3 [2, 0] rfl)
      · refine rn 2 rfl ?_
        refine ci hF rfl (fun c_24 hF => ?_) (fun c_24 hF => ?_)
        · refine rn 1 rfl ?_
          refine W.o (l1 rfl (hs.g 1 rfl) rfl) ?_
          obtain ⟨v_25, g_26, hF⟩ := bind_some hF
          refine rn 1 rfl ?_
          refine W.o (e_iaddrL (rd_W (o := todo) (id := j_13) rfl) rfl g_26) ?_
          refine W.o (l1D rfl rfl) ?_
          refine rn 1 rfl ?_
          have hs : SH st (bx58_o io1 todo :: _) := SH.bx1c j_13 (hs.p 4 [1, 1, 0, 0] rfl)
          obtain ⟨r_27, g_28, hF⟩ := bind_some hF
          refine cv rfl (by kernel_rfl) (ale rfl) (d58 (IntKind.wrap .i64 (v_25 + 1)) in_ todo _ g_28 _ _ io0 io1 (fun st hs => ?_) _ (hs.p 3 [2, 0, 0] rfl))
          refine rn 1 rfl ?_
          refine W.o (e_faddr rfl (hs.g 2 rfl)) ?_
          refine W.o (l1 rfl (hs.g 2 rfl) rfl) ?_
          obtain ⟨r_29, g_30, hF⟩ := bind_some hF
          refine cv rfl (by kernel_rfl) (ale rfl) (d58 v_19.To r_27.1 r_27.2 _ g_30 _ _ io0 io1 (fun st hs => ?_) _ hs)
          refine rn 3 rfl ?_
          exact ih (.p2 p (IntKind.wrap .i64 (k + 1)) r_29.1 r_29.2) _ hF K Ls iP0 hK _ _ io0 io1 ⟨rfl, rfl, rfl, rfl, rfl, trivial⟩ (hs.p 3 [0, 0] rfl)
        · refine rn 2 rfl ?_
          refine ci hF rfl (fun c_31 hF => ?_) (fun c_31 hF => ?_)
          · refine rn 1 rfl ?_
            refine W.o (e_faddr rfl (hs.g 0 rfl)) ?_
            refine W.o (l1 rfl (hs.g 0 rfl) rfl) ?_
            have hs : SH st (bx58_o io1 todo :: _) := SH.bx1c j_13 (hs.p 4 [1, 1, 0, 0] rfl)
            obtain ⟨r_32, g_33, hF⟩ := bind_some hF
            refine cv rfl (by kernel_rfl) (ale rfl) (d58 v_19.To in_ todo _ g_33 _ _ io0 io1 (fun st hs => ?_) _ (hs.p 3 [2, 0, 0] rfl))
            refine rn 3 rfl ?_
            exact ih (.p2 p (IntKind.wrap .i64 (k + 1)) r_32.1 r_32.2) _ hF K Ls iP0 hK _ _ io0 io1 ⟨rfl, rfl, rfl, rfl, rfl, trivial⟩ (hs.p 3 [0, 0] rfl)
          · refine rn 1 rfl ?_
            refine W.o (l1 rfl (hs.g 1 rfl) rfl) ?_
            obtain ⟨v_34, g_35, hF⟩ := bind_some hF
            refine rn 1 rfl ?_
            refine W.o (e_iaddrL (rd_W (o := todo) (id := j_13) rfl) rfl g_35) ?_
            refine W.o (l1D rfl rfl) ?_
            refine rn 1 rfl ?_
            have hs : SH st (bx58_o io1 todo :: _) := SH.bx1c j_13 (hs.p 4 [1, 1, 0, 0] rfl)
            obtain ⟨r_36, g_37, hF⟩ := bind_some hF
            refine cv rfl (by kernel_rfl) (ale rfl) (d58 (IntKind.wrap .i64 (v_34 + 1)) in_ todo _ g_37 _ _ io0 io1 (fun st hs => ?_) _ (hs.p 3 [2, 0, 0] rfl))
            refine rn 3 rfl ?_
            exact ih (.p2 p (IntKind.wrap .i64 (k + 1)) r_36.1 r_36.2) _ hF K Ls iP0 hK _ _ io0 io1 ⟨rfl, rfl, rfl, rfl, rfl, trivial⟩ (hs.p 3 [0, 0] rfl)
  · refine rj 1 3 rfl ?_
    have hs := (hs.p 3 [2, 0, 0] rfl)
    obtain ⟨j_38, hs⟩ := SH.bx1o hs
    refine frz (off := 0) (es := 1) (c := cB) (g := AV.bool) hs rfl (cs' := cSl 1 AV.bool in_) rfl rfl cB_len cB_one (fun _ => rfl) fun st hs => ?_
    refine rn 0 rfl ?_
    refine W.o (l1 rfl (hs.g 0 rfl) rfl) ?_
    refine W.o (e_len (rd_V rfl)) ?_
    refine rn 1 rfl ?_
    have hs : SH st (bx58_o io1 todo :: _) := SH.bx1c j_13 (hs.p 3 [1, 1, 0] rfl)
    have hs := hs.ownNil Int
    exact ih (.p3 p in_ ((ls in_).length : Int) 0 none) _ hF K Ls iP0 hK _ _ 0 ⟨rfl, rfl, rfl, rfl, rfl, trivial⟩ (hs.p 3 [0] rfl)
 | p3 p t76_ t77_ t78_ out =>
  dsimp only at hF
  intro K Ls iP0 hK tm st io0 hf hs
  refine en hf ?_
  refine lp ?_
  refine rn 1 rfl ?_
  refine ci hF rfl (fun c_40 hF => ?_) (fun c_40 hF => ?_)
  · obtain ⟨v_41, g_42, hF⟩ := bind_some hF
    refine rn 1 rfl ?_
    refine W.o (e_iaddrL (rd_V rfl) rfl g_42) ?_
    refine W.o (l1D rfl rfl) ?_
    refine rn 4 rfl ?_
    refine bi hF (fun c_43 hF => ?_) (fun c_43 hF => ?_)
    · refine wfx 84 rfl c_43 ?_
      refine W.on rfl rfl ?_
      refine W.o (e_faddrD rfl) ?_
      refine W.on rfl rfl ?_
      refine W.o (l1D rfl (by first | rfl | (rw [slV_cells]; rfl))) ?_
      obtain ⟨v_44, g_45, hF⟩ := bind_some hF
      refine rn 1 rfl ?_
      refine W.on rfl rfl ?_
      refine W.o (e_iaddrL (rd_V rfl) rfl g_45) ?_
      refine W.on rfl rfl ?_
      refine W.o (e_faddrD rfl) ?_
      refine W.on rfl rfl ?_
      refine W.o (l1D rfl rfl) ?_
      refine rn 2 rfl ?_
      refine bi hF (fun c_46 hF => ?_) (fun c_46 hF => ?_)
      · refine wfx 92 rfl c_46 ?_
        refine rn 9 rfl ?_
        refine ct rfl rfl ?_
        exact ih (.p4 p t78_ t76_ t77_ t78_ out) _ hF K Ls iP0 hK _ _ io0 ⟨rfl, rfl, rfl, rfl, rfl, rfl, trivial⟩ hs
      · refine wfx 92 rfl c_46 ?_
        refine W.on rfl rfl ?_
        refine W.o (e_faddrD rfl) ?_
        refine W.on rfl rfl ?_
        refine W.o (l1D rfl (by first | rfl | (rw [slV_cells]; rfl))) ?_
        obtain ⟨v_47, g_48, hF⟩ := bind_some hF
        refine rn 1 rfl ?_
        refine W.on rfl rfl ?_
        refine W.o (e_iaddrL (rd_V rfl) rfl g_48) ?_
        refine W.on rfl rfl ?_
        refine W.o (e_faddrD rfl) ?_
        refine W.on rfl rfl ?_
        refine W.o (l1D rfl rfl) ?_
        refine rn 3 rfl ?_
        refine ci hF rfl (fun c_49 hF => ?_) (fun c_49 hF => ?_)
        · exact ih (.p4 p t78_ t76_ t77_ t78_ out) _ hF K Ls iP0 hK _ _ io0 ⟨rfl, rfl, rfl, rfl, rfl, rfl, trivial⟩ hs
        · refine rn 2 rfl ?_
          exact ih (.p3 p t76_ t77_ (IntKind.wrap .i64 (t78_ + 1)) out) _ hF K Ls iP0 hK _ _ io0 ⟨rfl, rfl, rfl, rfl, rfl, trivial⟩ hs
    · refine wfx 84 rfl c_43 ?_
      refine rn 17 rfl ?_
      refine cf rfl rfl ?_
      refine rn 2 rfl ?_
      exact ih (.p3 p t76_ t77_ (IntKind.wrap .i64 (t78_ + 1)) out) _ hF K Ls iP0 hK _ _ io0 ⟨rfl, rfl, rfl, rfl, rfl, trivial⟩ hs
  · refine rn 2 rfl ?_
    cases hF
    exact rS' (rlt rl0) (hK _ (hs.p 1 [] rfl)) dsw
 | p4 p i t76_ t77_ t78_ out =>
  dsimp only at hF
  intro K Ls iP0 hK tm st io0 hf hs
  refine en hf ?_
  refine rn 2 rfl ?_
  refine bs (f := AV.int .i64) ([i] : List Int) hs rfl rfl rfl rfl fun st b_50 hs => ?_
  obtain ⟨g_51, hF⟩ := grd_some hF
  refine ap (ys := ls (some ([i] : List Int))) hs 1 rfl rfl (ae_rd (rd_W (o := (some ([i] : List Int))) (id := b_50) rfl)) g_51 (fun _ => rfl) fun st b_52 hs => ?_
  refine rn 3 rfl ?_
  exact ih (.p3 p t76_ t77_ (IntKind.wrap .i64 (t78_ + 1)) (sapp out (ls (some ([i] : List Int))))) _ hF K Ls iP0 hK _ _ b_52 ⟨rfl, rfl, rfl, rfl, rfl, trivial⟩ (hs.p 2 [1] rfl)
noncomputable def F41 (p : T45) (from_ : Sl Int) : Option (Sl Int) := (if 0 ≤ ((ls p.Code).length : Int) ∧ ((ls p.Code).length : Int) = ((ls p.Code).length : Int) ∧ (1 : Int) * ((ls p.Code).length : Int) ≤ 281474976710656 then (G41 (.p1 p from_ ((ls from_).length : Int) 0 (some (List.replicate (Int.toNat ((ls p.Code).length : Int)) (false : Bool))) from_)) else none)
theorem d41 (p : T45) (from_ : Sl Int) (r : Sl Int) (hF : F41 p from_ = some r) : ∀ (K : AV → Store → Prop) (Ls : List Asn) (iP0 : Nat), (∀ st, SH st (Ls) → K (slV 1 (AV.int .i64) r) st) → ∀ (st : Store), SH st (ownA iP0 from_ :: Ls) → XCall Tryd.prog gE 41 [v45 p, ownV 1 (AV.int .i64) from_ iP0] st K := by
 unfold F41 at hF
 intro K Ls iP0 hK  st hs
 refine bS k41 rfl ?_
 refine rn 0 rfl ?_
 refine W.o (e_boxD (cs := c45 p) rfl rfl (c45_one _)) ?_
 refine rn 1 rfl ?_
 refine W.o (e_faddrD rfl) ?_
 refine W.o (l1D rfl (by first | rfl | (rw [slV_cells]; rfl))) ?_
 refine W.o (e_len (rd_V rfl)) ?_
 obtain ⟨g_2, hF⟩ := grd_some hF
 refine mkV (c := cB) (false : Bool) hs rfl rfl rfl g_2 fun st b_1 hs => ?_
 have hs := hs.rvNil (α := Bool) cB
 refine al hs (cs := [rvV 1 (none : Sl Bool) 0]) rfl fun st b_3 hs => ?_
 refine so hs 0 rfl rfl rfl (rvV_c (es := 1) (o := (some (List.replicate (Int.toNat ((ls p.Code).length : Int)) (false : Bool)))) (id := b_1)) rfl (cs' := [rvV 1 (some (List.replicate (Int.toNat ((ls p.Code).length : Int)) (false : Bool))) b_1]) rfl rfl fun st hs => ?_
 have hs := hs.ownNil Int
 refine rn 1 rfl ?_
 refine al hs (cs := [ownV 1 (AV.int .i64) (none : Sl Int) 0]) rfl fun st b_5 hs => ?_
 refine so hs 0 rfl rfl rfl ownV_c rfl (cs' := [ownV 1 (AV.int .i64) from_ iP0]) rfl rfl fun st hs => ?_
 refine rn 1 rfl ?_
 refine W.o (e_len (rd_W (o := from_) (id := iP0) rfl)) ?_
 refine rn 1 rfl ?_
 have hs : SH st (bx58_o b_5 from_ :: _) := SH.bx1c iP0 (hs.p 6 [0, 4, 0, 0, 0, 0] rfl)
 have hs : SH st (bx88_r b_3 (some (List.replicate (Int.toNat ((ls p.Code).length : Int)) (false : Bool))) :: _) := SH.bx1c b_1 (hs.p 5 [2, 3, 0, 0, 0] rfl)
 refine wkl (weak_strp (S := [20]) ⟨(dsw (es := 1) (f := AV.int .i64) (o := from_) (id := iP0)).1, trivial⟩) ?_
 exact w41 (.p1 p from_ ((ls from_).length : Int) 0 (some (List.replicate (Int.toNat ((ls p.Code).length : Int)) (false : Bool))) from_) _ hF K Ls iP0 hK _ _ b_3 b_5 ⟨rfl, rfl, rfl, (dsw (es := 1) (f := AV.int .i64) (o := from_) (id := iP0)).2, rfl, rfl, trivial⟩ (hs.p 4 [0, 0] rfl)
def C44_20 : ACode := .s (.ops [q 17 (.faddr 2 3), q 18 (.load1 17), q 19 (.mv 9), q 20 (.iaddrL 9 18 19), q 21 (.loadN 9 20), q 10 (.alloc [(.int .u8 0), (.int .u64 0), (.int .u64 0), (.int .u64 0), (.int .u64 0), (.int .i64 0), (.int .i64 0), (.int .i64 0), (.int .i64 0)]), q0 (.store 9 10 21)]) (.s (.ops [q 22 (.faddr 0 10), q 23 (.load1 22), q 24 (.binI .eql 23 (ku 1)), q 25 (.mv 24), (q 26 (.faddr 1 10)).y 25, (q 27 (.loadN 4 26)).y 25, (q 28 (.mv 2)).y 25, (qc 29 57 [27, 28]).y 25, q 30 (.pick 25 29 (.c (.bool false)))]) (.cond 30 (.ops [q 31 (.mv 7), q 32 (.mv 9), q 33 (.binI .add 32 (ki 1)), q 34 (.bslice 1 1 false [(.int .i64 0)] [(0, (1, 33))] false), q 35 (.app 1 8 31 34), q 7 (.mv 35)]) .skip))
def C44_10 : ACode := .s (.ops [q 14 (.binI .lss 13 12)]) (.s (.cond 14 .skip (.exit 0)) (.s (.block 1 (.s (.ops [q 15 (.iaddrL 1 11 13), q 16 (.load1 15), q 9 (.mv 16)]) C44_20)) (.ops [q 36 (.binI .add 13 (ki 1)), q 13 (.mv 36)])))
def C44_28 : ACode := .s (.ops [q 37 (.loadN 3 3), q 38 (.mv 7), qc 39 41 [37, 38], q 6 (.mv 39)]) .ret
def C44_1 : ACode := .s (.ops [q 3 (.boxD 3 0), q 6 (.mv (.c .nils))]) (.s (.ops [q 7 (.mv (.c .nils))]) (.s (.s (.ops [q 11 (.mv 1), q 12 (.len 11), q 13 (.mv (ki 0))]) (.block 0 (.loop C44_10))) C44_28))
def R44 : List RA := [(.tmp 6)]
theorem k44 : compF Tryd.prog (muL [3]) 44 = some ⟨40, C44_1, R44⟩ := by kernel_rfl
noncomputable abbrev X44 (r : Sl Int) : Cx := cD Tryd.prog gE 40 R44 (slV 1 (AV.int .i64) r) [3]
inductive St44 where
 | p1 (c : Int) (p : T45) (t11_ : Sl Int) (t12_ : Int) (t13_ : Int) (next : Sl Int)
noncomputable def G44 : St44 → Option (Sl Int) | .p1 c p t11_ t12_ t13_ next => (if (decide (t13_ < t12_)) = true then (ix (ls t11_) t13_ >>= fun v_3 => (ix (ls p.Code) v_3 >>= fun v_5 => (if (v_5.Kind == 1) = true then (F57 v_5.Set c >>= fun r_9 => (if r_9 = true then (if ((ls next).length + (ls (some ([IntKind.wrap .i64 (v_3 + 1)] : List Int))).length) * 8 ≤ 140737488355328 then (G44 (.p1 c p t11_ t12_ (IntKind.wrap .i64 (t13_ + 1)) (sapp next (ls (some ([IntKind.wrap .i64 (v_3 + 1)] : List Int)))))) else none) else (G44 (.p1 c p t11_ t12_ (IntKind.wrap .i64 (t13_ + 1)) next)))) else (G44 (.p1 c p t11_ t12_ (IntKind.wrap .i64 (t13_ + 1)) next))))) else (F41 p next >>= fun r_15 => (some r_15))) partial_fixpoint
def M44 (x : St44) (r : Sl Int) : Prop := match x with | .p1 c p t11_ t12_ t13_ next => ∀ (tm : Fr) (st : Store) (io0 : Nat), Frm tm [(2, AV.int .u8 c), (3, .dptr (c45 p)), (7, ownV 1 (AV.int .i64) next io0), (11, slV 1 (AV.int .i64) t11_), (12, AV.int .i64 t12_), (13, AV.int .i64 t13_)] → SH st [ownA io0 next] → W (X44 r) [.lp C44_10, .blk 0, .code C44_28] tm st
theorem w44 : ∀ (x : St44) (r : Sl Int), G44 x = some r → M44 x r := by
 refine G44.partial_correctness (M44) ?_
 intro g ih x r hF
 cases x with
 | p1 c p t11_ t12_ t13_ next =>
  dsimp only at hF
  intro tm st io0 hf hs
  refine en hf ?_
  refine lp ?_
  refine rn 1 rfl ?_
  refine ci hF rfl (fun c_2 hF => ?_) (fun c_2 hF => ?_)
  · obtain ⟨v_3, g_4, hF⟩ := bind_some hF
    refine rn 0 rfl ?_
    refine W.o (e_iaddrL (rd_V rfl) rfl g_4) ?_
    refine W.o (l1D rfl rfl) ?_
    refine rn 1 rfl ?_
    refine W.o (e_faddrD rfl) ?_
    refine W.o (l1D rfl (by first | rfl | (rw [slV_cells]; rfl))) ?_
    obtain ⟨v_5, g_6, hF⟩ := bind_some hF
    refine rn 1 rfl ?_
    refine W.o (e_iaddrL (rd_V rfl) rfl g_6) ?_
    refine W.o (lND (s := c76 v_5) rfl rfl rfl) ?_
    refine al hs (cs := c76 ({ Kind := 0, Set := (Arr.rep 4 (0 : Int)), To := 0, Group := 0, Last := 0, Slot := 0 } : T76)) rfl fun st b_7 hs => ?_
    refine sr hs 0 rfl rfl rfl (cs' := c76 v_5) rfl rfl fun st hs => ?_
    refine rn 0 rfl ?_
    refine W.o (e_faddr rfl (hs.g 0 rfl)) ?_
    refine W.o (l1 rfl (hs.g 0 rfl) rfl) ?_
    refine rn 2 rfl ?_
    refine bi hF (fun c_8 hF => ?_) (fun c_8 hF => ?_)
    · refine wfx 25 rfl c_8 ?_
      refine W.on rfl rfl ?_
      refine W.o (e_faddr rfl (hs.g 0 rfl)) ?_
      refine W.on rfl rfl ?_
      refine W.o (lN (s := c24 v_5.Set) rfl (hs.g 0 rfl) rfl rfl) ?_
      obtain ⟨r_9, g_10, hF⟩ := bind_some hF
      refine rn 1 rfl ?_
      refine W.on rfl rfl ?_
      refine df (d57 v_5.Set c _ g_10) rfl ?_
      refine rn 1 rfl ?_
      refine ci hF rfl (fun c_11 hF => ?_) (fun c_11 hF => ?_)
      · refine rn 3 rfl ?_
        refine bs (f := AV.int .i64) ([IntKind.wrap .i64 (v_3 + 1)] : List Int) hs rfl rfl rfl rfl fun st b_12 hs => ?_
        obtain ⟨g_13, hF⟩ := grd_some hF
        refine ap (ys := ls (some ([IntKind.wrap .i64 (v_3 + 1)] : List Int))) hs 2 rfl rfl (ae_rd (rd_W (o := (some ([IntKind.wrap .i64 (v_3 + 1)] : List Int))) (id := b_12) rfl)) g_13 (fun _ => rfl) fun st b_14 hs => ?_
        refine rn 3 rfl ?_
        exact ih (.p1 c p t11_ t12_ (IntKind.wrap .i64 (t13_ + 1)) (sapp next (ls (some ([IntKind.wrap .i64 (v_3 + 1)] : List Int))))) _ hF _ _ b_14 ⟨rfl, rfl, rfl, rfl, rfl, rfl, trivial⟩ (hs.p 3 [2] rfl)
      · refine rn 2 rfl ?_
        exact ih (.p1 c p t11_ t12_ (IntKind.wrap .i64 (t13_ + 1)) next) _ hF _ _ io0 ⟨rfl, rfl, rfl, rfl, rfl, rfl, trivial⟩ (hs.p 2 [1] rfl)
    · refine wfx 25 rfl c_8 ?_
      refine rn 5 rfl ?_
      refine cf rfl rfl ?_
      refine rn 2 rfl ?_
      exact ih (.p1 c p t11_ t12_ (IntKind.wrap .i64 (t13_ + 1)) next) _ hF _ _ io0 ⟨rfl, rfl, rfl, rfl, rfl, rfl, trivial⟩ (hs.p 2 [1] rfl)
  · refine rn 0 rfl ?_
    refine W.o (lND (s := c45 p) rfl rfl rfl) ?_
    obtain ⟨r_15, g_16, hF⟩ := bind_some hF
    refine rn 1 rfl ?_
    refine cl (ale rfl) (d41 p next _ g_16 _ _ io0 (fun st hs => ?_) _ hs)
    refine rn 1 rfl ?_
    cases hF
    exact rD (rlt rl0) rfl
noncomputable def F44 (p : T45) (l : Sl Int) (c : Int) : Option (Sl Int) := (G44 (.p1 c p l ((ls l).length : Int) 0 none))
theorem d44 (p : T45) (l : Sl Int) (c : Int) (r : Sl Int) (hF : F44 p l c = some r) : DFun Tryd.prog gE 44 [v45 p, slV 1 (AV.int .i64) l, AV.int .u8 c] (slV 1 (AV.int .i64) r) := by
 unfold F44 at hF
 refine bD k44 rfl ?_
 have hs : SH [] [] := SH.nil
 generalize ([] : Store) = st at hs ⊢
 refine rn 0 rfl ?_
 refine W.o (e_boxD (cs := c45 p) rfl rfl (c45_one _)) ?_
 refine rn 3 rfl ?_
 refine W.o (e_len (rd_V rfl)) ?_
 refine rn 1 rfl ?_
 have hs := hs.ownNil Int
 exact w44 (.p1 c p l ((ls l).length : Int) 0 none) _ hF _ _ 0 ⟨rfl, rfl, rfl, rfl, rfl, rfl, trivial⟩ hs
def C40_1 : ACode := .s (.ops [q 2 (.boxD 3 0), q 4 (.mv (.c (.bool false)))]) (.s (.draw [] 0 0 [q 5 (.mv 1), q 6 (.len 5), q 7 (.binI .gtr 6 (ki 0)), q 8 (.mv 7), (q 9 (.mv 1)).y 8, (q 10 (.mv 1)).y 8, (q 11 (.len 10)).y 8, (q 12 (.binI .sub 11 (ki 1))).y 8, (q 13 (.iaddrL 1 9 12)).y 8, (q 14 (.load1 13)).y 8, (q 15 (.faddr 2 2)).y 8, (q 16 (.load1 15)).y 8, (q 17 (.len 16)).y 8, (q 18 (.binI .sub 17 (ki 1))).y 8, (q 19 (.binI .eql 14 18)).y 8, q 20 (.pick 8 19 (.c (.bool false))), q 4 (.mv 20)] []) .ret)
def R40 : List RA := [(.tmp 4)]
theorem k40 : compF Tryd.prog (muL [2]) 40 = some ⟨21, C40_1, R40⟩ := by kernel_rfl
noncomputable abbrev X40 (r : Bool) : Cx := cD Tryd.prog gE 21 R40 (AV.bool r) [2]
noncomputable def F40 (p : T45) (l : Sl Int) : Option Bool := (if (decide (((ls l).length : Int) > 0)) = true then (ix (ls l) (IntKind.wrap .i64 (((ls l).length : Int) - 1)) >>= fun v_2 => (some (v_2 == (IntKind.wrap .i64 (((ls p.Code).length : Int) - 1))))) else (some false))
theorem d40 (p : T45) (l : Sl Int) (r : Bool) (hF : F40 p l = some r) : DFun Tryd.prog gE 40 [v45 p, slV 1 (AV.int .i64) l] (AV.bool r) := by
 unfold F40 at hF
 refine bD k40 rfl ?_
 have hs : SH [] [] := SH.nil
 generalize ([] : Store) = st at hs ⊢
 refine rn 0 rfl ?_
 refine W.o (e_boxD (cs := c45 p) rfl rfl (c45_one _)) ?_
 refine rn 1 rfl ?_
 have h0 := hs
 refine dr0 ?_
 refine dn 1 rfl ?_
 refine de rfl (e_len (rd_V rfl)) ?_
 refine dn 2 rfl ?_
 refine bi hF (fun c_1 hF => ?_) (fun c_1 hF => ?_)
 · refine dfx 8 rfl c_1 ?_
   refine dn 2 rfl ?_
   refine don rfl rfl ?_
   refine de rfl (e_len (rd_V rfl)) ?_
   obtain ⟨v_2, g_3, hF⟩ := bind_some hF
   refine dn 1 rfl ?_
   refine don rfl rfl ?_
   refine de rfl (e_iaddrL (rd_V rfl) rfl g_3) ?_
   refine don rfl rfl ?_
   refine de rfl (l1D rfl rfl) ?_
   refine don rfl rfl ?_
   refine de rfl (e_faddrD rfl) ?_
   refine don rfl rfl ?_
   refine de rfl (l1D rfl (by first | rfl | (rw [slV_cells]; rfl))) ?_
   refine don rfl rfl ?_
   refine de rfl (e_len (rd_V rfl)) ?_
   refine dn 4 rfl ?_
   refine dz ?_
   refine rn 0 rfl ?_
   cases hF
   exact rD (rlt rl0) rfl
 · refine dfx 8 rfl c_1 ?_
   refine dn 13 rfl ?_
   refine dz ?_
   refine rn 0 rfl ?_
   cases hF
   exact rD (rlt rl0) rfl
def C42_20 : ACode := .s (.ops [q 15 (.mv 5), qc 16 60 [15], qc 17 59 [3, 16]]) (.ops [qc 18 61 [3, (ku 32)]])
def C42_10 : ACode := .s (.ops [q 12 (.binI .lss 11 10)]) (.s (.cond 12 .skip (.exit 0)) (.s (.block 1 (.s (.ops [q 13 (.iaddrL 1 9 11), q 14 (.load1 13), q 5 (.mv 14)]) C42_20)) (.ops [q 19 (.binI .add 11 (ki 1)), q 11 (.mv 19)])))
def C42_31 : ACode := .s (.ops [q 25 (.binI .lss 24 23)]) (.s (.cond 25 .skip (.exit 2)) (.s (.block 3 (.s (.ops [q 26 (.iaddrL 1 22 24), q 27 (.load1 26), q 7 (.mv 27)]) (.s (.ops [q 28 (.mv 7), qc 29 60 [28], qc 30 59 [3, 29]]) (.ops [qc 31 61 [3, (ku 32)]])))) (.ops [q 32 (.binI .add 24 (ki 1)), q 24 (.mv 32)])))
def C42_45 : ACode := .s (.ops [qc 33 62 [3], q 2 (.mv 33)]) .ret
def C42_24 : ACode := .s (.ops [qc 20 61 [3, (ku 47)]]) (.s (.s (.ops [q 21 (.faddr 1 1), q 22 (.load1 21), q 23 (.len 22), q 24 (.mv (ki 0))]) (.block 2 (.loop C42_31))) C42_45)
def C42_1 : ACode := .s (.ops [q 1 (.boxD 3 0), q 2 (.mv (.c (.str [])))]) (.s (.ops [q 3 (.allocB 106 2 [.nilptr, .nils])]) (.s (.s (.ops [q 8 (.faddr 0 1), q 9 (.load1 8), q 10 (.len 9), q 11 (.mv (ki 0))]) (.block 0 (.loop C42_10))) C42_24))
def R42 : List RA := [(.tmp 2)]
theorem k42 : compF Tryd.prog (muL [1]) 42 = some ⟨34, C42_1, R42⟩ := by kernel_rfl
noncomputable abbrev X42 (r : Str) : Cx := cD Tryd.prog gE 34 R42 (AV.str r) [1]
inductive St42 where
 | p1 (x_ : T80) (t9_ : Sl Int) (t10_ : Int) (t11_ : Int) (s : Str)
 | p2 (t22_ : Sl Int) (t23_ : Int) (t24_ : Int) (s : Str)
noncomputable def G42 : St42 → Option Str | .p1 x_ t9_ t10_ t11_ s => (if (decide (t11_ < t10_)) = true then (ix (ls t9_) t11_ >>= fun v_3 => (itoaF v_3 >>= fun r_5 => (bWS s r_5 >>= fun r_7 => (bWB r_7.2.2 32 >>= fun r_9 => (G42 (.p1 x_ t9_ t10_ (IntKind.wrap .i64 (t11_ + 1)) r_9.2)))))) else (bWB s 47 >>= fun r_11 => (G42 (.p2 x_.b ((ls x_.b).length : Int) 0 r_11.2)))) | .p2 t22_ t23_ t24_ s => (if (decide (t24_ < t23_)) = true then (ix (ls t22_) t24_ >>= fun v_14 => (itoaF v_14 >>= fun r_16 => (bWS s r_16 >>= fun r_18 => (bWB r_18.2.2 32 >>= fun r_20 => (G42 (.p2 t22_ t23_ (IntKind.wrap .i64 (t24_ + 1)) r_20.2)))))) else (bST s >>= fun r_22 => (some r_22))) partial_fixpoint
def M42 (x : St42) (r : Str) : Prop := match x with | .p1 x_ t9_ t10_ t11_ s => ∀ (tm : Fr) (st : Store) (io0 : Nat), Frm tm [(1, .dptr (c80 x_)), (3, .ptr io0 0), (9, slV 1 (AV.int .i64) t9_), (10, AV.int .i64 t10_), (11, AV.int .i64 t11_)] → SH st [bldA 106 5 io0 s] → W (X42 r) [.lp C42_10, .blk 0, .code C42_24] tm st | .p2 t22_ t23_ t24_ s => ∀ (tm : Fr) (st : Store) (io0 : Nat), Frm tm [(3, .ptr io0 0), (22, slV 1 (AV.int .i64) t22_), (23, AV.int .i64 t23_), (24, AV.int .i64 t24_)] → SH st [bldA 106 5 io0 s] → W (X42 r) [.lp C42_31, .blk 2, .code C42_45] tm st
theorem w42 : ∀ (x : St42) (r : Str), G42 x = some r → M42 x r := by
 refine G42.partial_correctness (M42) ?_
 intro g ih x r hF
 cases x with
 | p1 x_ t9_ t10_ t11_ s =>
  dsimp only at hF
  intro tm st io0 hf hs
  refine en hf ?_
  refine lp ?_
  refine rn 1 rfl ?_
  refine ci hF rfl (fun c_2 hF => ?_) (fun c_2 hF => ?_)
  · obtain ⟨v_3, g_4, hF⟩ := bind_some hF
    refine rn 0 rfl ?_
    refine W.o (e_iaddrL (rd_V rfl) rfl g_4) ?_
    refine W.o (l1D rfl rfl) ?_
    obtain ⟨r_5, g_6, hF⟩ := bind_some hF
    refine rn 2 rfl ?_
    refine df (dItoa v_3 _ g_6) rfl ?_
    obtain ⟨r_7, g_8, hF⟩ := bind_some hF
    refine cl (ale rfl) (dWS s r_5 _ g_8 _ _ io0 (fun st hs => ?_) _ hs)
    obtain ⟨r_9, g_10, hF⟩ := bind_some hF
    refine rn 0 rfl ?_
    refine cl (ale rfl) (dWB r_7.2.2 32 _ g_10 _ _ io0 (fun st hs => ?_) _ hs)
    refine rn 2 rfl ?_
    exact ih (.p1 x_ t9_ t10_ (IntKind.wrap .i64 (t11_ + 1)) r_9.2) _ hF _ _ io0 ⟨rfl, rfl, rfl, rfl, rfl, trivial⟩ hs
  · obtain ⟨r_11, g_12, hF⟩ := bind_some hF
    refine rn 0 rfl ?_
    refine cl (ale rfl) (dWB s 47 _ g_12 _ _ io0 (fun st hs => ?_) _ hs)
    refine rn 0 rfl ?_
    refine W.o (e_faddrD rfl) ?_
    refine W.o (l1D rfl (by first | rfl | (rw [slV_cells]; rfl))) ?_
    refine W.o (e_len (rd_V rfl)) ?_
    refine rn 1 rfl ?_
    exact ih (.p2 x_.b ((ls x_.b).length : Int) 0 r_11.2) _ hF _ _ io0 ⟨rfl, rfl, rfl, rfl, trivial⟩ hs
 | p2 t22_ t23_ t24_ s =>
  dsimp only at hF
  intro tm st io0 hf hs
  refine en hf ?_
  refine lp ?_
  refine rn 1 rfl ?_
  refine ci hF rfl (fun c_13 hF => ?_) (fun c_13 hF => ?_)
  · obtain ⟨v_14, g_15, hF⟩ := bind_some hF
    refine rn 0 rfl ?_
    refine W.o (e_iaddrL (rd_V rfl) rfl g_15) ?_
    refine W.o (l1D rfl rfl) ?_
    obtain ⟨r_16, g_17, hF⟩ := bind_some hF
    refine rn 2 rfl ?_
    refine df (dItoa v_14 _ g_17) rfl ?_
    obtain ⟨r_18, g_19, hF⟩ := bind_some hF
    refine cl (ale rfl) (dWS s r_16 _ g_19 _ _ io0 (fun st hs => ?_) _ hs)
    obtain ⟨r_20, g_21, hF⟩ := bind_some hF
    refine rn 0 rfl ?_
    refine cl (ale rfl) (dWB r_18.2.2 32 _ g_21 _ _ io0 (fun st hs => ?_) _ hs)
    refine rn 2 rfl ?_
    exact ih (.p2 t22_ t23_ (IntKind.wrap .i64 (t24_ + 1)) r_20.2) _ hF _ _ io0 ⟨rfl, rfl, rfl, rfl, trivial⟩ hs
  · obtain ⟨r_22, g_23, hF⟩ := bind_some hF
    refine rn 0 rfl ?_
    refine cl (ale rfl) (dST s _ g_23 _ _ io0 (fun st hs => ?_) _ hs)
    refine rn 1 rfl ?_
    cases hF
    exact rD (rlt rl0) rfl
noncomputable def F42 (x_ : T80) : Option Str := (G42 (.p1 x_ x_.a ((ls x_.a).length : Int) 0 ([] : Str)))
theorem d42 (x_ : T80) (r : Str) (hF : F42 x_ = some r) : DFun Tryd.prog gE 42 [v80 x_] (AV.str r) := by
 unfold F42 at hF
 refine bD k42 rfl ?_
 have hs : SH [] [] := SH.nil
 generalize ([] : Store) = st at hs ⊢
 refine rn 0 rfl ?_
 refine W.o (e_boxD (cs := c80 x_) rfl rfl (c80_one _)) ?_
 refine rn 1 rfl ?_
 refine bld_new (T := 5) hs fun st b_1 hs => ?_
 refine rn 0 rfl ?_
 refine W.o (e_faddrD rfl) ?_
 refine W.o (l1D rfl (by first | rfl | (rw [slV_cells]; rfl))) ?_
 refine W.o (e_len (rd_V rfl)) ?_
 refine rn 1 rfl ?_
 exact w42 (.p1 x_ x_.a ((ls x_.a).length : Int) 0 ([] : Str)) _ hF _ _ b_1 ⟨rfl, rfl, rfl, rfl, rfl, trivial⟩ hs
def C43_43 : ACode := .s (.ops [q 30 (.binI .lss 29 28)]) (.s (.cond 30 .skip (.exit 4)) (.s (.block 5 (.s (.ops [q 31 (.iaddrL 9 27 29), q 32 (.loadN 9 31), q 12 (.alloc [(.int .u8 0), (.int .u64 0), (.int .u64 0), (.int .u64 0), (.int .u64 0), (.int .i64 0), (.int .i64 0), (.int .i64 0), (.int .i64 0)]), q0 (.store 9 12 32)]) (.s (.ops [q 33 (.faddr 0 12), q 34 (.load1 33), q 35 (.binI .eql 34 (ku 1))]) (.cond 35 (.ops [q 36 (.faddr 1 12), q 37 (.loadN 4 36), q 38 (.mv 7), q 39 (.cvI .u8 38), qc 40 57 [37, 39], qc 41 63 [40], q 42 (.ixS (.c (.str [48, 49])) 41), qc 43 61 [8, 42]]) .skip)))) (.ops [q 44 (.binI .add 29 (ki 1)), q 29 (.mv 44)])))
def C43_59 : ACode := .ops [q 45 (.binI .add 23 (ki 1)), q 23 (.mv 45)]
def C43_29 : ACode := .s (.ops [q 24 (.binI .lss 23 22)]) (.s (.cond 24 .skip (.exit 2)) (.s (.block 3 (.s (.ops [q 25 (.iaddrL 1 21 23), q 26 (.load1 25), q 10 (.mv 26)]) (.s (.ops [q 27 (.mv 10), q 28 (.len 27), q 29 (.mv (ki 0))]) (.block 4 (.loop C43_43))))) C43_59))
def C43_60 : ACode := .s (.ops [q 46 (.mv 5), qc 47 62 [8], q 48 (.lookup .none (.bool false) false 46 47), q 49 (.un .not 48)]) (.cond 49 (.s (.ops [q 50 (.mv 5), qc 51 62 [8], q0 (.mapset .none 50 51 (.c (.bool true)))]) (.ops [q 52 (.mv 6), q 53 (.mv 7), q 54 (.cvI .u8 53), q 55 (.bslice 1 1 false [(.int .u8 0)] [(0, (1, 54))] false), q 56 (.app 1 1 52 55), q 6 (.mv 56)])) .skip)
def C43_20 : ACode := .s (.ops [q 16 (.mv 14), q 7 (.mv 16)]) (.s (.ops [q 8 (.allocB 106 2 [.nilptr, .nils])]) (.s (.s (.ops [q 17 (.faddr 2 2), q 18 (.load1 17), q 19 (.faddr 2 3), q 20 (.load1 19), q 21 (.bslice 1 2 false [.nils] [(0, (1, 18)), (1, (1, 20))] false), q 22 (.len 21), q 23 (.mv (ki 0))]) (.block 2 (.loop C43_29))) C43_60))
def C43_67 : ACode := .ops [q 57 (.binI .add 14 (ki 1)), q 14 (.mv 57)]
def C43_12 : ACode := .s (.ops [q 15 (.binI .lss 14 (ki 256))]) (.s (.cond 15 .skip (.exit 0)) (.s (.block 1 C43_20) C43_67))
def C43_68 : ACode := .s (.ops [q 58 (.mv 6), q 4 (.mv 58)]) .ret
def C43_1 : ACode := .s (.ops [q 2 (.boxD 3 0), q 3 (.boxD 3 1), q 4 (.mv (.c .nils))]) (.s (.ops [q 13 (.mkmap .none), q 5 (.mv 13)]) (.s (.ops [q 6 (.mv (.c .nils))]) (.s (.s (.ops [q 14 (.mv (ki 0))]) (.block 0 (.loop C43_12))) C43_68)))
def R43 : List RA := [(.tmp 4)]
theorem k43 : compF Tryd.prog (muL [2, 3]) 43 = some ⟨59, C43_1, R43⟩ := by kernel_rfl
noncomputable abbrev X43 (r : Sl Int) : Cx := cD Tryd.prog gE 59 R43 (slV 1 (AV.int .u8) r) [2, 3]
inductive St43 where
 | p1 (p : T45) (q_ : T45) (t14_ : Int) (seen : Mp Str Bool) (out : Sl Int)
 | p2 (p : T45) (q_ : T45) (c : Int) (t14_ : Int) (t21_ : Sl (Sl T76)) (t22_ : Int) (t23_ : Int) (seen : Mp Str Bool) (out : Sl Int) (s : Str)
 | p3 (p : T45) (q_ : T45) (c : Int) (t14_ : Int) (t21_ : Sl (Sl T76)) (t22_ : Int) (t23_ : Int) (t27_ : Sl T76) (t28_ : Int) (t29_ : Int) (seen : Mp Str Bool) (out : Sl Int) (s : Str)
noncomputable def G43 : St43 → Option (Sl Int) | .p1 p q_ t14_ seen out => (if (decide (t14_ < 256)) = true then (G43 (.p2 p q_ t14_ t14_ (some ([p.Code, q_.Code] : List (Sl T76))) ((ls (some ([p.Code, q_.Code] : List (Sl T76)))).length : Int) 0 seen out ([] : Str))) else (some out)) | .p2 p q_ c t14_ t21_ t22_ t23_ seen out s => (if (decide (t23_ < t22_)) = true then (ix (ls t21_) t23_ >>= fun v_7 => (G43 (.p3 p q_ c t14_ t21_ t22_ t23_ v_7 ((ls v_7).length : Int) 0 seen out s))) else (bST s >>= fun r_9 => (if (!(Option.getD (Mp.get seen r_9) false)) = true then (bST s >>= fun r_12 => (some (Mp.put seen r_12 true) >>= fun m_15 => (if ((ls out).length + (ls (some ([IntKind.wrap .u8 c] : List Int))).length) * 1 ≤ 140737488355328 then (G43 (.p1 p q_ (IntKind.wrap .i64 (t14_ + 1)) m_15 (sapp out (ls (some ([IntKind.wrap .u8 c] : List Int)))))) else none))) else (G43 (.p1 p q_ (IntKind.wrap .i64 (t14_ + 1)) seen out))))) | .p3 p q_ c t14_ t21_ t22_ t23_ t27_ t28_ t29_ seen out s => (if (decide (t29_ < t28_)) = true then (ix (ls t27_) t29_ >>= fun v_21 => (if (v_21.Kind == 1) = true then (F57 v_21.Set (IntKind.wrap .u8 c) >>= fun r_25 => (F63 r_25 >>= fun r_27 => (ix ([48, 49] : Str) r_27 >>= fun b_29 => (bWB s (b_29.toNat : Int) >>= fun r_31 => (G43 (.p3 p q_ c t14_ t21_ t22_ t23_ t27_ t28_ (IntKind.wrap .i64 (t29_ + 1)) seen out r_31.2)))))) else (G43 (.p3 p q_ c t14_ t21_ t22_ t23_ t27_ t28_ (IntKind.wrap .i64 (t29_ + 1)) seen out s)))) else (G43 (.p2 p q_ c t14_ t21_ t22_ (IntKind.wrap .i64 (t23_ + 1)) seen out s))) partial_fixpoint
def M43 (x : St43) (r : Sl Int) : Prop := match x with | .p1 p q_ t14_ seen out => ∀ (tm : Fr) (st : Store) (io0 : Nat) (io1 : Nat), Frm tm [(2, .dptr (c45 p)), (3, .dptr (c45 q_)), (5, .mp io0), (6, ownV 1 (AV.int .u8) out io1), (14, AV.int .i64 t14_)] → SH st [pt io0 (.map none (mS AV.bool seen) seen.n), ownA io1 out] → W (X43 r) [.lp C43_12, .blk 0, .code C43_68] tm st | .p2 p q_ c t14_ t21_ t22_ t23_ seen out s => ∀ (tm : Fr) (st : Store) (io0 : Nat) (io1 : Nat) (io2 : Nat), Frm tm [(2, .dptr (c45 p)), (3, .dptr (c45 q_)), (5, .mp io0), (6, ownV 1 (AV.int .u8) out io1), (7, AV.int .i64 c), (8, .ptr io2 0), (14, AV.int .i64 t14_), (21, slV 1 (slV 9 v76) t21_), (22, AV.int .i64 t22_), (23, AV.int .i64 t23_)] → SH st [pt io0 (.map none (mS AV.bool seen) seen.n), ownA io1 out, bldA 106 5 io2 s] → W (X43 r) [.lp C43_29, .blk 2, .code C43_60, .blk 1, .code C43_67, .lp C43_12, .blk 0, .code C43_68] tm st | .p3 p q_ c t14_ t21_ t22_ t23_ t27_ t28_ t29_ seen out s => ∀ (tm : Fr) (st : Store) (io0 : Nat) (io1 : Nat) (io2 : Nat), Frm tm [(2, .dptr (c45 p)), (3, .dptr (c45 q_)), (5, .mp io0), (6, ownV 1 (AV.int .u8) out io1), (7, AV.int .i64 c), (8, .ptr io2 0), (14, AV.int .i64 t14_), (21, slV 1 (slV 9 v76) t21_), (22, AV.int .i64 t22_), (23, AV.int .i64 t23_), (27, slV 9 v76 t27_), (28, AV.int .i64 t28_), (29, AV.int .i64 t29_)] → SH st [pt io0 (.map none (mS AV.bool seen) seen.n), ownA io1 out, bldA 106 5 io2 s] → W (X43 r) [.lp C43_43, .blk 4, .blk 3, .code C43_59, .lp C43_29, .blk 2, .code C43_60, .blk 1, .code C43_67, .lp C43_12, .blk 0, .code C43_68] tm st
theorem w43 : ∀ (x : St43) (r : Sl Int), G43 x = some r → M43 x r := by
 refine G43.partial_correctness (M43) ?_
 intro g ih x r hF
 cases x with
 | p1 p q_ t14_ seen out =>
  dsimp only at hF
  intro tm st io0 io1 hf hs
  refine en hf ?_
  refine lp ?_
  refine rn 1 rfl ?_
  refine ci hF rfl (fun c_3 hF => ?_) (fun c_3 hF => ?_)
  · refine rn 2 rfl ?_
    refine bld_new (T := 5) hs fun st b_4 hs => ?_
    refine rn 0 rfl ?_
    refine W.o (e_faddrD rfl) ?_
    refine W.o (l1D rfl (by first | rfl | (rw [slV_cells]; rfl))) ?_
    refine W.o (e_faddrD rfl) ?_
    refine W.o (l1D rfl (by first | rfl | (rw [slV_cells]; rfl))) ?_
    refine bs (f := slV 9 v76) ([p.Code, q_.Code] : List (Sl T76)) hs (by try generalize p.Code = y0_; try generalize q_.Code = y1_; (try cases y0_) <;> (try cases y1_) <;> rfl) (by try generalize p.Code = y0_; try generalize q_.Code = y1_; (try cases y0_) <;> (try cases y1_) <;> rfl) (by try generalize p.Code = y0_; try generalize q_.Code = y1_; (try cases y0_) <;> (try cases y1_) <;> rfl) rfl fun st b_5 hs => ?_
    refine W.o (e_len (rd_W (o := (some ([p.Code, q_.Code] : List (Sl T76)))) (id := b_5) rfl)) ?_
    refine rn 1 rfl ?_
    refine wkl (weak_strp (S := [21]) ⟨(dsw (es := 1) (f := slV 9 v76) (o := (some ([p.Code, q_.Code] : List (Sl T76)))) (id := b_5)).1, trivial⟩) ?_
    exact ih (.p2 p q_ t14_ t14_ (some ([p.Code, q_.Code] : List (Sl T76))) ((ls (some ([p.Code, q_.Code] : List (Sl T76)))).length : Int) 0 seen out ([] : Str)) _ hF _ _ io0 io1 b_4 ⟨rfl, rfl, rfl, rfl, rfl, rfl, rfl, (dsw (es := 1) (f := slV 9 v76) (o := (some ([p.Code, q_.Code] : List (Sl T76)))) (id := b_5)).2, rfl, rfl, trivial⟩ (hs.p 4 [2, 2, 1] rfl)
  · refine rn 2 rfl ?_
    cases hF
    exact rD' (rlt rl0) dsw
 | p2 p q_ c t14_ t21_ t22_ t23_ seen out s =>
  dsimp only at hF
  intro tm st io0 io1 io2 hf hs
  refine en hf ?_
  refine lp ?_
  refine rn 1 rfl ?_
  refine ci hF rfl (fun c_6 hF => ?_) (fun c_6 hF => ?_)
  · obtain ⟨v_7, g_8, hF⟩ := bind_some hF
    refine rn 0 rfl ?_
    refine W.o (e_iaddrL (rd_V rfl) rfl g_8) ?_
    refine W.o (l1D rfl (by first | rfl | (rw [slV_cells]; rfl))) ?_
    refine rn 2 rfl ?_
    refine W.o (e_len (rd_V rfl)) ?_
    refine rn 1 rfl ?_
    exact ih (.p3 p q_ c t14_ t21_ t22_ t23_ v_7 ((ls v_7).length : Int) 0 seen out s) _ hF _ _ io0 io1 io2 ⟨rfl, rfl, rfl, rfl, rfl, rfl, rfl, rfl, rfl, rfl, rfl, rfl, rfl, trivial⟩ hs
  · obtain ⟨r_9, g_10, hF⟩ := bind_some hF
    refine rn 1 rfl ?_
    refine cl (ale rfl) (dSTF s _ g_10 _ _ io2 (fun st hs => ?_) _ (hs.p 3 [2, 0, 0] rfl))
    refine W.o (e_lookupS1 (f := AV.bool) (z := false) rfl (hs.g 1 rfl) rfl rfl) ?_
    refine rn 1 rfl ?_
    refine ci hF rfl (fun c_11 hF => ?_) (fun c_11 hF => ?_)
    · obtain ⟨r_12, g_13, hF⟩ := bind_some hF
      refine rn 1 rfl ?_
      refine cl (ale rfl) (dSTG s _ g_13 _ _ io2 (fun st hs => ?_) _ hs)
      obtain ⟨m_15, e_16, hF⟩ := let_some hF
      refine msS (f := AV.bool) true hs 1 rfl rfl rfl rfl rfl fun st hs => ?_
      rw [e_16] at hs
      refine rn 3 rfl ?_
      refine bs (f := AV.int .u8) ([IntKind.wrap .u8 c] : List Int) hs rfl rfl rfl rfl fun st b_17 hs => ?_
      obtain ⟨g_18, hF⟩ := grd_some hF
      refine ap (ys := ls (some ([IntKind.wrap .u8 c] : List Int))) hs 3 rfl rfl (ae_rd (rd_W (o := (some ([IntKind.wrap .u8 c] : List Int))) (id := b_17) rfl)) g_18 (fun _ => rfl) fun st b_19 hs => ?_
      refine rn 3 rfl ?_
      exact ih (.p1 p q_ (IntKind.wrap .i64 (t14_ + 1)) m_15 (sapp out (ls (some ([IntKind.wrap .u8 c] : List Int))))) _ hF _ _ io0 b_19 ⟨rfl, rfl, rfl, rfl, rfl, trivial⟩ (hs.p 4 [2, 2] rfl)
    · refine rn 2 rfl ?_
      exact ih (.p1 p q_ (IntKind.wrap .i64 (t14_ + 1)) seen out) _ hF _ _ io0 io1 ⟨rfl, rfl, rfl, rfl, rfl, trivial⟩ (hs.p 3 [1, 1] rfl)
 | p3 p q_ c t14_ t21_ t22_ t23_ t27_ t28_ t29_ seen out s =>
  dsimp only at hF
  intro tm st io0 io1 io2 hf hs
  refine en hf ?_
  refine lp ?_
  refine rn 1 rfl ?_
  refine ci hF rfl (fun c_20 hF => ?_) (fun c_20 hF => ?_)
  · obtain ⟨v_21, g_22, hF⟩ := bind_some hF
    refine rn 0 rfl ?_
    refine W.o (e_iaddrL (rd_V rfl) rfl g_22) ?_
    refine W.o (lND (s := c76 v_21) rfl rfl rfl) ?_
    refine al hs (cs := c76 ({ Kind := 0, Set := (Arr.rep 4 (0 : Int)), To := 0, Group := 0, Last := 0, Slot := 0 } : T76)) rfl fun st b_23 hs => ?_
    refine sr hs 0 rfl rfl rfl (cs' := c76 v_21) rfl rfl fun st hs => ?_
    refine rn 0 rfl ?_
    refine W.o (e_faddr rfl (hs.g 0 rfl)) ?_
    refine W.o (l1 rfl (hs.g 0 rfl) rfl) ?_
    refine rn 1 rfl ?_
    refine ci hF rfl (fun c_24 hF => ?_) (fun c_24 hF => ?_)
    · refine rn 0 rfl ?_
      refine W.o (e_faddr rfl (hs.g 0 rfl)) ?_
      refine W.o (lN (s := c24 v_21.Set) rfl (hs.g 0 rfl) rfl rfl) ?_
      obtain ⟨r_25, g_26, hF⟩ := bind_some hF
      refine rn 2 rfl ?_
      refine df (d57 v_21.Set (IntKind.wrap .u8 c) _ g_26) rfl ?_
      obtain ⟨r_27, g_28, hF⟩ := bind_some hF
      refine df (d63 r_25 _ g_28) rfl ?_
      obtain ⟨b_29, g_30, hF⟩ := bind_some hF
      refine W.o (e_ixS rfl rfl g_30) ?_
      obtain ⟨r_31, g_32, hF⟩ := bind_some hF
      refine cl (ale rfl) (dWB s (b_29.toNat : Int) _ g_32 _ _ io2 (fun st hs => ?_) _ (hs.p 4 [3, 0, 0, 0] rfl))
      refine rn 2 rfl ?_
      exact ih (.p3 p q_ c t14_ t21_ t22_ t23_ t27_ t28_ (IntKind.wrap .i64 (t29_ + 1)) seen out r_31.2) _ hF _ _ io0 io1 io2 ⟨rfl, rfl, rfl, rfl, rfl, rfl, rfl, rfl, rfl, rfl, rfl, rfl, rfl, trivial⟩ (hs.p 4 [2, 2, 0] rfl)
    · refine rn 2 rfl ?_
      exact ih (.p3 p q_ c t14_ t21_ t22_ t23_ t27_ t28_ (IntKind.wrap .i64 (t29_ + 1)) seen out s) _ hF _ _ io0 io1 io2 ⟨rfl, rfl, rfl, rfl, rfl, rfl, rfl, rfl, rfl, rfl, rfl, rfl, rfl, trivial⟩ (hs.p 4 [1, 1, 1] rfl)
  · refine rn 2 rfl ?_
    exact ih (.p2 p q_ c t14_ t21_ t22_ (IntKind.wrap .i64 (t23_ + 1)) seen out s) _ hF _ _ io0 io1 io2 ⟨rfl, rfl, rfl, rfl, rfl, rfl, rfl, rfl, rfl, rfl, trivial⟩ hs
noncomputable def F43 (p : T45) (q_ : T45) : Option (Sl Int) := (G43 (.p1 p q_ 0 (Mp.empty : Mp Str Bool) none))
theorem d43 (p : T45) (q_ : T45) (r : Sl Int) (hF : F43 p q_ = some r) : DFun Tryd.prog gE 43 [v45 p, v45 q_] (slV 1 (AV.int .u8) r) := by
 unfold F43 at hF
 refine bD k43 rfl ?_
 have hs : SH [] [] := SH.nil
 generalize ([] : Store) = st at hs ⊢
 refine rn 0 rfl ?_
 refine W.o (e_boxD (cs := c45 p) rfl rfl (c45_one _)) ?_
 refine W.o (e_boxD (cs := c45 q_) rfl rfl (c45_one _)) ?_
 refine rn 1 rfl ?_
 refine mkS AV.bool hs fun st b_1 hs => ?_
 refine rn 3 rfl ?_
 have hs := hs.ownNil Int
 exact w43 (.p1 p q_ 0 (Mp.empty : Mp Str Bool) none) _ hF _ _ b_1 0 ⟨rfl, rfl, rfl, rfl, rfl, trivial⟩ (hs.p 2 [1, 0] rfl)
def C23_1 : ACode := .s (.ops [q 4 (.mv (.c (.bool false)))]) (.s (.ops [q 5 (.mv 0), q 6 (.mv 1), q 7 (.eqB true 5 6), q 4 (.mv 7)]) .ret)
def R23 : List RA := [(.tmp 4)]
theorem k23 : compF Tryd.prog (muL []) 23 = some ⟨8, C23_1, R23⟩ := by kernel_rfl
noncomputable abbrev X23 (r : Bool) : Cx := cD Tryd.prog gE 8 R23 (AV.bool r)
noncomputable def F23 (x_ : Bool) (y : Bool) : Option Bool := (some (!(x_ == y)))
theorem d23 (x_ : Bool) (y : Bool) (r : Bool) (hF : F23 x_ y = some r) : DFun Tryd.prog gE 23 [AV.bool x_, AV.bool y] (AV.bool r) := by
 unfold F23 at hF
 refine bD k23 rfl ?_
 have hs : SH [] [] := SH.nil
 generalize ([] : Store) = st at hs ⊢
 refine rn 5 rfl ?_
 cases hF
 exact rD (rlt rl0) rfl
def C30_1 : ACode := .s (.ops [q 4 (.mv (.c (.bool false)))]) (.s (.ops [q 5 (.mv 0), q 6 (.mv 5), (q 7 (.mv 1)).y 6, (q 8 (.un .not 7)).y 6, q 9 (.pick 6 8 (.c (.bool false))), q 4 (.mv 9)]) .ret)
def R30 : List RA := [(.tmp 4)]
theorem k30 : compF Tryd.prog (muL []) 30 = some ⟨10, C30_1, R30⟩ := by kernel_rfl
noncomputable abbrev X30 (r : Bool) : Cx := cD Tryd.prog gE 10 R30 (AV.bool r)
noncomputable def F30 (x_ : Bool) (y : Bool) : Option Bool := (if x_ = true then (some (!y)) else (some false))
theorem d30 (x_ : Bool) (y : Bool) (r : Bool) (hF : F30 x_ y = some r) : DFun Tryd.prog gE 30 [AV.bool x_, AV.bool y] (AV.bool r) := by
 unfold F30 at hF
 refine bD k30 rfl ?_
 have hs : SH [] [] := SH.nil
 generalize ([] : Store) = st at hs ⊢
 refine rn 3 rfl ?_
 refine bi hF (fun c_1 hF => ?_) (fun c_1 hF => ?_)
 · refine wfx 6 rfl c_1 ?_
   refine rn 4 rfl ?_
   cases hF
   exact rD (rlt rl0) rfl
 · refine wfx 6 rfl c_1 ?_
   refine rn 4 rfl ?_
   cases hF
   exact rD (rlt rl0) rfl
end Go.Proofs.YtcidnoghoifmmaaDoor
end
section
/-
  Functions of the program's as plain functions.
-/

set_option linter.unusedVariables false
set_option linter.unusedSimpArgs false
set_option maxRecDepth 4000
set_option maxHeartbeats 4000000
namespace Go.Proofs.YtcidnoghoifmmaaDoor
open Go AW
attribute [local irreducible] W WD SH XS XLoop DFun XCall XYield
def C31_1 : ACode := .s (.ops [q 4 (.mv (.c (.bool false)))]) (.s (.ops [q 5 (.mv 0), q 6 (.mv 5), (q 7 (.mv 1)).y 6, q 8 (.pick 6 7 (.c (.bool false))), q 4 (.mv 8)]) .ret)
def R31 : List RA := [(.tmp 4)]
theorem k31 : compF Tryd.prog (muL []) 31 = some ⟨9, C31_1, R31⟩ := by kernel_rfl
noncomputable abbrev X31 (r : Bool) : Cx := cD Tryd.prog gE 9 R31 (AV.bool r)
noncomputable def F31 (x_ : Bool) (y : Bool) : Option Bool := (if x_ = true then (some y) else (some false))
theorem d31 (x_ : Bool) (y : Bool) (r : Bool) (hF : F31 x_ y = some r) : DFun Tryd.prog gE 31 [AV.bool x_, AV.bool y] (AV.bool r) := by
 unfold F31 at hF
 refine bD k31 rfl ?_
 have hs : SH [] [] := SH.nil
 generalize ([] : Store) = st at hs ⊢
 refine rn 3 rfl ?_
 refine bi hF (fun c_1 hF => ?_) (fun c_1 hF => ?_)
 · refine wfx 6 rfl c_1 ?_
   refine rn 3 rfl ?_
   cases hF
   exact rD (rlt rl0) rfl
 · refine wfx 6 rfl c_1 ?_
   refine rn 3 rfl ?_
   cases hF
   exact rD (rlt rl0) rfl
def C39_1 : ACode := .s (.ops [q 4 (.boxD 3 0), q 5 (.mv (.c (.bool false)))]) (.s (.draw [] 0 0 [q 6 (.load1 1), q 7 (.loadN 3 2), q 8 (.faddr 0 4), q 9 (.load1 8), q 11 (.loadN 3 3), q 12 (.faddr 1 4), q 13 (.load1 12), qc 10 40 [7, 9], qc 14 40 [11, 13]] [qf 15 6 [10, 14], q 5 (.mv 15)]) .ret)
def R39 : List RA := [(.tmp 5)]
theorem k39 : compF Tryd.prog (muL [4]) 39 = some ⟨16, C39_1, R39⟩ := by kernel_rfl
noncomputable abbrev X39 (K : AV → Store → Prop) : Cx := cK Tryd.prog gE 16 R39 (isK K) [4]
noncomputable def F39 (x_ : T80) (q0_ : T45) (q1_ : T45) : Option (Bool × T45 × T45) := (F40 q0_ x_.a >>= fun r_1 => (F40 q1_ x_.b >>= fun r_3 => (F23 r_1 r_3 >>= fun r_5 => (some (r_5, q0_, q1_)))))
theorem d39 (x_ : T80) (q0_ : T45) (q1_ : T45) (r : Bool × T45 × T45) (hF : F39 x_ q0_ q1_ = some r) : ∀ (K : AV → Store → Prop) (Ls : List Asn) (iQ0 : Nat) (iQ1 : Nat), (∀ st, SH st (pt iQ0 (.cells (c45 r.2.1)) :: pt iQ1 (.cells (c45 r.2.2)) :: Ls) → K (AV.bool r.1) st) → ∀ (st : Store), SH st (pt iQ0 (.cells (c45 q0_)) :: pt iQ1 (.cells (c45 q1_)) :: Ls) → XCall Tryd.prog gE 39 [v80 x_, .dptr [.fn 23 []], .ptr iQ0 0, .ptr iQ1 0] st K := by
 unfold F39 at hF
 intro K Ls iQ0 iQ1 hK  st hs
 refine bS k39 rfl ?_
 refine rn 0 rfl ?_
 refine W.o (e_boxD (cs := c80 x_) rfl rfl (c80_one _)) ?_
 refine rn 1 rfl ?_
 have h0 := hs
 refine dr0 ?_
 refine de rfl (l1D rfl rfl) ?_
 refine de rfl (lN (s := c45 q0_) rfl (h0.g 0 rfl) rfl rfl) ?_
 refine de rfl (e_faddrD rfl) ?_
 refine de rfl (l1D rfl (by first | rfl | (rw [slV_cells]; rfl))) ?_
 refine de rfl (lN (s := c45 q1_) rfl (h0.g 1 rfl) rfl rfl) ?_
 refine de rfl (e_faddrD rfl) ?_
 refine de rfl (l1D rfl (by first | rfl | (rw [slV_cells]; rfl))) ?_
 obtain ⟨r_1, g_2, hF⟩ := bind_some hF
 refine ddf (d40 q0_ x_.a _ g_2) rfl ?_
 obtain ⟨r_3, g_4, hF⟩ := bind_some hF
 refine ddf (d40 q1_ x_.b _ g_4) rfl ?_
 refine dz ?_
 obtain ⟨r_5, g_6, hF⟩ := bind_some hF
 refine cvd rfl (by kernel_rfl) (d23 r_1 r_3 _ g_6) rfl ?_
 refine rn 1 rfl ?_
 cases hF
 exact rS (rlt rl0) (hK _ hs) rfl
def C22_61 : ACode := .cond 66 .skip (.exit 2)
def O22_69q1 : List AOp := qc 76 44 [69, 74, 75] :: qc 84 44 [77, 82, 83] :: q 94 (.build [.nils, .nils, (.str [])] [(0, (1, 76)), (1, (1, 84)), (2, (1, 93))]) :: []
def O22_69q0 : List AOp := q 69 (.loadN 3 9) :: q 70 (.mv 15) :: q 71 (.mv 17) :: q 72 (.iaddrL 3 70 71) :: q 73 (.faddr 0 72) :: q 74 (.load1 73) :: q 75 (.mv 19) :: q 77 (.loadN 3 11) :: q 78 (.mv 15) :: q 79 (.mv 17) :: q 80 (.iaddrL 3 78 79) :: q 81 (.faddr 1 80) :: q 82 (.load1 81) :: q 83 (.mv 19) :: q 85 (.mv 15) :: q 86 (.mv 17) :: q 87 (.iaddrL 3 85 86) :: q 88 (.faddr 2 87) :: q 89 (.load1 88) :: q 90 (.mv 19) :: q 91 (.bslice 1 1 false [(.int .u8 0)] [(0, (1, 90))] false) :: q 92 (.b2s 91) :: q 93 (.binS .add 89 92) :: q 20 (.alloc [.nils, .nils, (.str [])]) :: O22_69q1
def C22_73 : ACode := .cond 110 (.exit 3) .skip
def C22_76 : ACode := .s (.s (.ops [q 111 (.mv 15), q 112 (.len 111), q 113 (.binI .eql 112 (ki 4096))]) (.cond 113 (.s (.ops [q 6 (.mv (.c (.str []))), q 7 (.mv (.c (.bool false))), q 8 (.mv (ki 3))]) .ret) .skip)) (.s (.s (.ops [q 114 (.mv 12), q 115 (.loadN 3 20), qf 116 114 [115]]) (.cond 116 (.s (.ops [q 117 (.faddr 2 20), q 118 (.load1 117), q 6 (.mv 118), q 7 (.mv (.c (.bool true))), q 8 (.mv (ki 0))]) .ret) .skip)) (.s (.ops [q 119 (.mv 14), q 120 (.loadN 3 20), qc 121 42 [120], q0 (.mapset .none 119 121 (.c (.bool true)))]) (.ops [q 122 (.mv 15), q 123 (.loadN 3 20), q 124 (.bslice 3 1 true [.nils, .nils, (.str [])] [(0, (3, 123))] false), q 125 (.app 3 64 122 124), q 15 (.mv 125)])))
def C22_95 : ACode := .ops [q 126 (.binI .add 65 (ki 1)), q 65 (.mv 126)]
def C22_64 : ACode := .s (.block 3 (.s (.ops [q 67 (.iaddrL 1 63 65), q 68 (.load1 67), q 19 (.mv 68)]) (.s (.draw [] 0 2 O22_69q0 [q0 (.store 3 20 94)]) (.s (.s (.ops [q 95 (.faddr 0 20), q 96 (.load1 95), q 97 (.len 96), q 98 (.binI .eql 97 (ki 0)), q 99 (.mv 98), (q 100 (.faddr 1 20)).y 99, (q 101 (.load1 100)).y 99, (q 102 (.len 101)).y 99, (q 103 (.binI .eql 102 (ki 0))).y 99, q 104 (.pick 99 103 (.c (.bool false))), q 105 (.mv 104), (q 106 (.mv 14)).n 105, (q 107 (.loadN 3 20)).n 105, (qc 108 42 [107]).n 105, (q 109 (.lookup .none (.bool false) false 106 108)).n 105, q 110 (.pick 105 (.c (.bool true)) 109)]) C22_73) C22_76)))) C22_95
def C22_58 : ACode := .s (.ops [q 66 (.binI .lss 65 64)]) (.s C22_61 C22_64)
def C22_96 : ACode := .ops [q 61 (.mv 17), q 62 (.binI .add 61 (ki 1)), q 17 (.mv 62)]
def C22_46 : ACode := .s (.s (.ops [q 57 (.mv 17), q 58 (.mv 15), q 59 (.len 58), q 60 (.binI .lss 57 59)]) (.cond 60 .skip (.exit 0))) (.s (.block 1 (.s (.ops [q 63 (.mv 16), q 64 (.len 63), q 65 (.mv (ki 0))]) (.block 2 (.loop C22_58)))) C22_96)
def C22_97 : ACode := .s (.ops [q 6 (.mv (.c (.str []))), q 7 (.mv (.c (.bool false))), q 8 (.mv (ki 0))]) .ret
def C22_41 : ACode := .s (.s (.ops [q 17 (.mv (ki 0))]) (.block 0 (.loop C22_46))) C22_97
def C22_1 : ACode := .s (.ops [q 3 (.boxD 9 0), q 4 (.boxD 9 1), q 5 (.boxD 1 2), q 6 (.mv (.c (.str []))), q 7 (.mv (.c (.bool false))), q 8 (.mv (ki 0))]) (.s (.ops [q 22 (.loadN 9 3), qc 23 32 [22], q 21 (.mv 23), q 24 (.extract 21 0), q 25 (.extract 21 1), q 9 (.alloc [(.int .i64 0), (.int .i64 0), .nils]), q0 (.store 3 9 24), q 10 (.mv 25)]) (.s (.s (.ops [q 26 (.mv 10), q 27 (.binI .neq 26 (ki 0))]) (.cond 27 (.s (.ops [q 28 (.mv 10), q 6 (.mv (.c (.str []))), q 7 (.mv (.c (.bool false))), q 8 (.mv 28)]) .ret) .skip)) (.s (.ops [q 30 (.loadN 9 4), qc 31 32 [30], q 29 (.mv 31), q 32 (.extract 29 0), q 33 (.extract 29 1), q 11 (.alloc [(.int .i64 0), (.int .i64 0), .nils]), q0 (.store 3 11 32), q 10 (.mv 33)]) (.s (.s (.ops [q 34 (.mv 10), q 35 (.binI .neq 34 (ki 0))]) (.cond 35 (.s (.ops [q 36 (.mv 10), q 6 (.mv (.c (.str []))), q 7 (.mv (.c (.bool false))), q 8 (.mv 36)]) .ret) .skip)) (.s (.ops [q 37 (.mkfn 39 [5, 9, 11]), q 12 (.mv 37)]) (.s (.draw [] 0 3 [q 38 (.loadN 3 9), q 39 (.bslice 1 1 false [(.int .i64 0)] [(0, (1, (ki 0)))] false), q 41 (.loadN 3 11), q 42 (.bslice 1 1 false [(.int .i64 0)] [(0, (1, (ki 0)))] false), q 13 (.alloc [.nils, .nils, (.str [])]), qf 40 (.c (.fn 41 [])) [38, 39], qf 43 (.c (.fn 41 [])) [41, 42], q 44 (.build [.nils, .nils, (.str [])] [(0, (1, 40)), (1, (1, 43))])] [q0 (.store 3 13 44)]) (.s (.s (.ops [q 45 (.mv 12), q 46 (.loadN 3 13), qf 47 45 [46]]) (.cond 47 (.s (.ops [q 6 (.mv (.c (.str []))), q 7 (.mv (.c (.bool true))), q 8 (.mv (ki 0))]) .ret) .skip)) (.s (.ops [q 48 (.mkmap .none), q 49 (.loadN 3 13), qc 50 42 [49], q0 (.mapset .none 48 50 (.c (.bool true))), q 51 (.mv 48), q 14 (.mv 51)]) (.s (.ops [q 52 (.loadN 3 13), q 53 (.bslice 3 1 true [.nils, .nils, (.str [])] [(0, (3, 52))] false), q 15 (.mv 53)]) (.s (.ops [q 54 (.loadN 3 9), q 55 (.loadN 3 11), qc 56 43 [54, 55], q 16 (.mv 56)]) C22_41))))))))))
def R22 : List RA := [(.tmp 6), (.tmp 7), (.tmp 8)]
theorem k22 : compF Tryd.prog (muL [3, 4, 5, 40, 43]) 22 = some ⟨127, C22_1, R22⟩ := by kernel_rfl
noncomputable abbrev X22 (r : Str × Bool × Int) : Cx := cD Tryd.prog gE 127 R22 (AV.tup [AV.str r.1, AV.bool r.2.1, AV.int .i64 r.2.2]) [3, 4, 5, 40, 43]
inductive St22 where
 | p1 (bytes : Sl Int) (k : Int) (p : T45) (q_ : T45) (seen : Mp Str Bool) (l : Sl T80)
 | p2 (bytes : Sl Int) (k : Int) (t63_ : Sl Int) (t64_ : Int) (t65_ : Int) (p : T45) (q_ : T45) (seen : Mp Str Bool) (l : Sl T80)
 | p3 (bytes : Sl Int) (k : Int) (t63_ : Sl Int) (t64_ : Int) (t65_ : Int) (t110_ : Bool) (p : T45) (q_ : T45) (seen : Mp Str Bool) (l : Sl T80) (x_ : T80)
noncomputable def G22 : St22 → Option (Str × Bool × Int) | .p1 bytes k p q_ seen l => (if (decide (k < ((ls l).length : Int))) = true then (G22 (.p2 bytes k bytes ((ls bytes).length : Int) 0 p q_ seen l)) else (some (([] : Str), false, 0))) | .p2 bytes k t63_ t64_ t65_ p q_ seen l => (if (decide (t65_ < t64_)) = true then (ix (ls t63_) t65_ >>= fun v_34 => (ix (ls l) k >>= fun v_39 => (ix (ls l) k >>= fun v_41 => (ix (ls l) k >>= fun v_43 => (if (v_43.text).length + (toBs (ls (some ([v_34] : List Int)))).length ≤ 9223372036854775807 then (F44 p v_39.a v_34 >>= fun r_48 => (F44 q_ v_41.b v_34 >>= fun r_50 => (if (((ls r_48).length : Int) == 0) = true then (if (((ls r_50).length : Int) == 0) = true then (G22 (.p2 bytes k t63_ t64_ (IntKind.wrap .i64 (t65_ + 1)) p q_ seen l)) else (F42 ({ a := r_48, b := r_50, text := v_43.text ++ (toBs (ls (some ([v_34] : List Int)))) } : T80) >>= fun r_54 => (G22 (.p3 bytes k t63_ t64_ t65_ (Option.getD (Mp.get seen r_54) false) p q_ seen l ({ a := r_48, b := r_50, text := v_43.text ++ (toBs (ls (some ([v_34] : List Int)))) } : T80))))) else (F42 ({ a := r_48, b := r_50, text := v_43.text ++ (toBs (ls (some ([v_34] : List Int)))) } : T80) >>= fun r_56 => (G22 (.p3 bytes k t63_ t64_ t65_ (Option.getD (Mp.get seen r_56) false) p q_ seen l ({ a := r_48, b := r_50, text := v_43.text ++ (toBs (ls (some ([v_34] : List Int)))) } : T80))))))) else none))))) else (G22 (.p1 bytes (IntKind.wrap .i64 (k + 1)) p q_ seen l))) | .p3 bytes k t63_ t64_ t65_ t110_ p q_ seen l x_ => (if t110_ = true then (G22 (.p2 bytes k t63_ t64_ (IntKind.wrap .i64 (t65_ + 1)) p q_ seen l)) else (if (((ls l).length : Int) == 4096) = true then (some (([] : Str), false, 3)) else (F39 x_ p q_ >>= fun r_60 => (if r_60.1 = true then (some (x_.text, true, 0)) else (F42 x_ >>= fun r_63 => (some (Mp.put seen r_63 true) >>= fun m_66 => (if ((ls l).length + (ls (some ([x_] : List T80))).length) * 64 ≤ 140737488355328 then (G22 (.p2 bytes k t63_ t64_ (IntKind.wrap .i64 (t65_ + 1)) r_60.2.1 r_60.2.2 m_66 (sapp l (ls (some ([x_] : List T80)))))) else none))))))) partial_fixpoint
def M22 (x : St22) (r : Str × Bool × Int) : Prop := match x with | .p1 bytes k p q_ seen l => ∀ (tm : Fr) (st : Store) (io0 : Nat) (io1 : Nat) (io2 : Nat) (io3 : Nat), Frm tm [(9, .ptr io0 0), (11, .ptr io1 0), (12, .fn 39 [.dptr [.fn 23 []], .ptr io0 0, .ptr io1 0]), (14, .mp io2), (15, ownV 3 v80 l io3), (16, slV 1 (AV.int .u8) bytes), (17, AV.int .i64 k)] → SH st [pt io0 (.cells (c45 p)), pt io1 (.cells (c45 q_)), pt io2 (.map none (mS AV.bool seen) seen.n), ownA io3 l] → W (X22 r) [.lp C22_46, .blk 0, .code C22_97] tm st | .p2 bytes k t63_ t64_ t65_ p q_ seen l => ∀ (tm : Fr) (st : Store) (io0 : Nat) (io1 : Nat) (io2 : Nat) (io3 : Nat), Frm tm [(9, .ptr io0 0), (11, .ptr io1 0), (12, .fn 39 [.dptr [.fn 23 []], .ptr io0 0, .ptr io1 0]), (14, .mp io2), (15, ownV 3 v80 l io3), (16, slV 1 (AV.int .u8) bytes), (17, AV.int .i64 k), (63, slV 1 (AV.int .u8) t63_), (64, AV.int .i64 t64_), (65, AV.int .i64 t65_)] → SH st [pt io0 (.cells (c45 p)), pt io1 (.cells (c45 q_)), pt io2 (.map none (mS AV.bool seen) seen.n), ownA io3 l] → W (X22 r) [.lp C22_58, .blk 2, .blk 1, .code C22_96, .lp C22_46, .blk 0, .code C22_97] tm st | .p3 bytes k t63_ t64_ t65_ t110_ p q_ seen l x_ => ∀ (tm : Fr) (st : Store) (io0 : Nat) (io1 : Nat) (io2 : Nat) (io3 : Nat) (io4 : Nat), Frm tm [(9, .ptr io0 0), (11, .ptr io1 0), (12, .fn 39 [.dptr [.fn 23 []], .ptr io0 0, .ptr io1 0]), (14, .mp io2), (15, ownV 3 v80 l io3), (16, slV 1 (AV.int .u8) bytes), (17, AV.int .i64 k), (20, .ptr io4 0), (63, slV 1 (AV.int .u8) t63_), (64, AV.int .i64 t64_), (65, AV.int .i64 t65_), (110, AV.bool t110_)] → SH st [pt io0 (.cells (c45 p)), pt io1 (.cells (c45 q_)), pt io2 (.map none (mS AV.bool seen) seen.n), ownA io3 l, pt io4 (.cells (c80 x_))] → W (X22 r) [.code C22_73, .code C22_76, .blk 3, .code C22_95, .lp C22_58, .blk 2, .blk 1, .code C22_96, .lp C22_46, .blk 0, .code C22_97] tm st
theorem w22 : ∀ (x : St22) (r : Str × Bool × Int), G22 x = some r → M22 x r := by
 refine G22.partial_correctness (M22) ?_
 intro g ih x r hF
 cases x with
 | p1 bytes k p q_ seen l =>
  dsimp only at hF
  intro tm st io0 io1 io2 io3 hf hs
  refine en hf ?_
  refine lp ?_
  refine rn 2 rfl ?_
  refine W.o (e_len (rd_W (o := l) (id := io3) rfl)) ?_
  refine rn 1 rfl ?_
  refine ci hF rfl (fun c_32 hF => ?_) (fun c_32 hF => ?_)
  · refine rn 1 rfl ?_
    refine W.o (e_len (rd_V rfl)) ?_
    refine rn 1 rfl ?_
    exact ih (.p2 bytes k bytes ((ls bytes).length : Int) 0 p q_ seen l) _ hF _ _ io0 io1 io2 io3 ⟨rfl, rfl, rfl, rfl, rfl, rfl, rfl, rfl, rfl, rfl, trivial⟩ hs
  · refine rn 3 rfl ?_
    cases hF
    exact rD (rlt (rlt (rlt rl0))) rfl
 | p2 bytes k t63_ t64_ t65_ p q_ seen l =>
  dsimp only at hF
  intro tm st io0 io1 io2 io3 hf hs
  refine en hf ?_
  refine lp ?_
  refine rn 1 rfl ?_
  refine ci hF rfl (fun c_33 hF => ?_) (fun c_33 hF => ?_)
  · obtain ⟨v_34, g_35, hF⟩ := bind_some hF
    refine rn 0 rfl ?_
    refine W.o (e_iaddrL (rd_V rfl) rfl g_35) ?_
    refine W.o (l1D rfl rfl) ?_
    refine rn 1 rfl ?_
    refine drn hs fun s_36 st h0 hs => ?_
    refine de rfl (lN (s := c45 p) rfl (h0.g 0 rfl) rfl rfl) ?_
    obtain ⟨v_39, g_40, hF⟩ := bind_some hF
    refine dn 2 rfl ?_
    refine de rfl (e_iaddrL (rd_W (o := l) (id := io3) rfl) rfl g_40) ?_
    refine de rfl (e_faddrD rfl) ?_
    refine de rfl (l1D rfl (by first | rfl | (rw [slV_cells]; rfl))) ?_
    refine dn 1 rfl ?_
    refine de rfl (lN (s := c45 q_) rfl (h0.g 1 rfl) rfl rfl) ?_
    obtain ⟨v_41, g_42, hF⟩ := bind_some hF
    refine dn 2 rfl ?_
    refine de rfl (e_iaddrL (rd_W (o := l) (id := io3) rfl) rfl g_42) ?_
    refine de rfl (e_faddrD rfl) ?_
    refine de rfl (l1D rfl (by first | rfl | (rw [slV_cells]; rfl))) ?_
    obtain ⟨v_43, g_44, hF⟩ := bind_some hF
    refine dn 3 rfl ?_
    refine de rfl (e_iaddrL (rd_W (o := l) (id := io3) rfl) rfl g_44) ?_
    refine de rfl (e_faddrD rfl) ?_
    refine de rfl (l1D rfl rfl) ?_
    refine dn 1 rfl ?_
    refine dbs (f := AV.int .u8) ([v_34] : List Int) hs 0 rfl rfl rfl rfl rfl rfl fun st hs => ?_
    refine de rfl (e_b2s (rd_W (o := (some ([v_34] : List Int))) (id := (List.length s_36 + 0)) rfl)) ?_
    obtain ⟨g_46, hF⟩ := grd_some hF
    refine de rfl (e_str rfl rfl (op_cat _ _ g_46)) ?_
    refine dal hs 1 (cs := c80 ({ a := none, b := none, text := [] } : T80)) rfl rfl rfl fun st hs => ?_
    obtain ⟨r_48, g_49, hF⟩ := bind_some hF
    refine ddf (d44 p v_39.a v_34 _ g_49) rfl ?_
    obtain ⟨r_50, g_51, hF⟩ := bind_some hF
    refine ddf (d44 q_ v_41.b v_34 _ g_51) rfl ?_
    refine de rfl (e_build (z := [.nils, .nils, (.str [])]) (cs := c80 ({ a := r_48, b := r_50, text := v_43.text ++ (toBs (ls (some ([v_34] : List Int)))) } : T80)) (pk_cons (cs := cSl 1 (AV.int .i64) r_48) (v := slV 1 (AV.int .i64) r_48) rfl slV_cells (cSl_len _) (by decide) (pk_cons (cs := cSl 1 (AV.int .i64) r_50) (v := slV 1 (AV.int .i64) r_50) rfl slV_cells (cSl_len _) (by decide) (pk_cons (cs := cS (v_43.text ++ (toBs (ls (some ([v_34] : List Int)))))) rfl rfl (cS_len _) (by decide) pk_nil))) (show fillA (c80 ({ a := none, b := none, text := [] } : T80)) _ = _ from (fl_cons (lrx 0 1 (cSl 1 (AV.int .i64) r_48) rfl rfl) ((cSl_len _).trans (cSl_len _).symm) (fl_cons (lrx 1 1 (cSl 1 (AV.int .i64) r_50) rfl rfl) ((cSl_len _).trans (cSl_len _).symm) (fl_cons (lrx 2 1 (cS (v_43.text ++ (toBs (ls (some ([v_34] : List Int)))))) rfl rfl) ((cS_len _).trans (cS_len _).symm) (fl_nil _)))))) ?_
    refine dz ?_
    refine sl hs 1 rfl rfl (LR.whole _ _) (c80_len _) rfl (c80_len _) (c80_one _) rfl fun st hs => ?_
    refine rn 0 rfl ?_
    refine W.o (e_faddr rfl (hs.g 1 rfl)) ?_
    refine W.o (l1 rfl (hs.g 1 rfl) rfl) ?_
    refine W.o (e_len (rd_V rfl)) ?_
    refine rn 2 rfl ?_
    refine bi hF (fun c_52 hF => ?_) (fun c_52 hF => ?_)
    · refine wfx 99 rfl c_52 ?_
      refine W.on rfl rfl ?_
      refine W.o (e_faddr rfl (hs.g 1 rfl)) ?_
      refine W.on rfl rfl ?_
      refine W.o (l1 rfl (hs.g 1 rfl) rfl) ?_
      refine W.on rfl rfl ?_
      refine W.o (e_len (rd_V rfl)) ?_
      refine rn 3 rfl ?_
      refine bi hF (fun c_53 hF => ?_) (fun c_53 hF => ?_)
      · refine wfx 105 rfl c_53 ?_
        refine rn 5 rfl ?_
        refine ct rfl rfl ?_
        refine rn 2 rfl ?_
        exact ih (.p2 bytes k t63_ t64_ (IntKind.wrap .i64 (t65_ + 1)) p q_ seen l) _ hF _ _ io0 io1 io2 io3 ⟨rfl, rfl, rfl, rfl, rfl, rfl, rfl, rfl, rfl, rfl, trivial⟩ (hs.p 6 [2, 2, 2, 2] rfl)
      · refine wfx 105 rfl c_53 ?_
        refine rn 1 rfl ?_
        refine W.on rfl rfl ?_
        refine W.o (lN (s := c80 ({ a := r_48, b := r_50, text := v_43.text ++ (toBs (ls (some ([v_34] : List Int)))) } : T80)) rfl (hs.g 1 rfl) rfl rfl) ?_
        obtain ⟨r_54, g_55, hF⟩ := bind_some hF
        refine W.on rfl rfl ?_
        refine df (d42 ({ a := r_48, b := r_50, text := v_43.text ++ (toBs (ls (some ([v_34] : List Int)))) } : T80) _ g_55) rfl ?_
        refine W.on rfl rfl ?_
        refine W.o (e_lookupS1 (f := AV.bool) (z := false) rfl (hs.g 4 rfl) rfl rfl) ?_
        refine rj 1 1 rfl ?_
        exact ih (.p3 bytes k t63_ t64_ t65_ (Option.getD (Mp.get seen r_54) false) p q_ seen l ({ a := r_48, b := r_50, text := v_43.text ++ (toBs (ls (some ([v_34] : List Int)))) } : T80)) _ hF _ _ io0 io1 io2 io3 (List.length s_36 + 1) ⟨rfl, rfl, rfl, rfl, rfl, rfl, rfl, rfl, rfl, rfl, rfl, rfl, trivial⟩ (hs.p 6 [2, 2, 2, 2, 1] rfl)
    · refine wfx 99 rfl c_52 ?_
      refine rn 7 rfl ?_
      refine W.on rfl rfl ?_
      refine W.o (lN (s := c80 ({ a := r_48, b := r_50, text := v_43.text ++ (toBs (ls (some ([v_34] : List Int)))) } : T80)) rfl (hs.g 1 rfl) rfl rfl) ?_
      obtain ⟨r_56, g_57, hF⟩ := bind_some hF
      refine W.on rfl rfl ?_
      refine df (d42 ({ a := r_48, b := r_50, text := v_43.text ++ (toBs (ls (some ([v_34] : List Int)))) } : T80) _ g_57) rfl ?_
      refine W.on rfl rfl ?_
      refine W.o (e_lookupS1 (f := AV.bool) (z := false) rfl (hs.g 4 rfl) rfl rfl) ?_
      refine rj 1 1 rfl ?_
      exact ih (.p3 bytes k t63_ t64_ t65_ (Option.getD (Mp.get seen r_56) false) p q_ seen l ({ a := r_48, b := r_50, text := v_43.text ++ (toBs (ls (some ([v_34] : List Int)))) } : T80)) _ hF _ _ io0 io1 io2 io3 (List.length s_36 + 1) ⟨rfl, rfl, rfl, rfl, rfl, rfl, rfl, rfl, rfl, rfl, rfl, rfl, trivial⟩ (hs.p 6 [2, 2, 2, 2, 1] rfl)
  · refine rn 3 rfl ?_
    exact ih (.p1 bytes (IntKind.wrap .i64 (k + 1)) p q_ seen l) _ hF _ _ io0 io1 io2 io3 ⟨rfl, rfl, rfl, rfl, rfl, rfl, rfl, trivial⟩ hs
 | p3 bytes k t63_ t64_ t65_ t110_ p q_ seen l x_ =>
  dsimp only at hF
  intro tm st io0 io1 io2 io3 io4 hf hs
  refine en hf ?_
  refine ci hF rfl (fun c_58 hF => ?_) (fun c_58 hF => ?_)
  · refine rn 2 rfl ?_
    exact ih (.p2 bytes k t63_ t64_ (IntKind.wrap .i64 (t65_ + 1)) p q_ seen l) _ hF _ _ io0 io1 io2 io3 ⟨rfl, rfl, rfl, rfl, rfl, rfl, rfl, rfl, rfl, rfl, trivial⟩ (hs.p 5 [0, 0, 0, 0] rfl)
  · refine rn 1 rfl ?_
    refine W.o (e_len (rd_W (o := l) (id := io3) rfl)) ?_
    refine rn 1 rfl ?_
    refine ci hF rfl (fun c_59 hF => ?_) (fun c_59 hF => ?_)
    · refine rn 3 rfl ?_
      cases hF
      exact rD (rlt (rlt (rlt rl0))) rfl
    · refine rn 1 rfl ?_
      refine W.o (lN (s := c80 x_) rfl (hs.g 4 rfl) rfl rfl) ?_
      obtain ⟨r_60, g_61, hF⟩ := bind_some hF
      refine cv rfl (by kernel_rfl) (ale rfl) (d39 x_ p q_ _ g_61 _ _ io0 io1 (fun st hs => ?_) _ hs)
      refine rn 0 rfl ?_
      refine ci hF rfl (fun c_62 hF => ?_) (fun c_62 hF => ?_)
      · refine rn 0 rfl ?_
        refine W.o (e_faddr rfl (hs.g 4 rfl)) ?_
        refine W.o (l1 rfl (hs.g 4 rfl) rfl) ?_
        refine rn 3 rfl ?_
        cases hF
        exact rD (rlt (rlt (rlt rl0))) rfl
      · refine rn 1 rfl ?_
        refine W.o (lN (s := c80 x_) rfl (hs.g 4 rfl) rfl rfl) ?_
        obtain ⟨r_63, g_64, hF⟩ := bind_some hF
        refine df (d42 x_ _ g_64) rfl ?_
        obtain ⟨m_66, e_67, hF⟩ := let_some hF
        refine msS (f := AV.bool) true hs 2 rfl rfl rfl rfl rfl fun st hs => ?_
        rw [e_67] at hs
        refine rn 1 rfl ?_
        refine W.o (lN (s := c80 x_) rfl (hs.g 4 rfl) rfl rfl) ?_
        refine bs (f := v80) ([x_] : List T80) hs rfl rfl (by first | (simp [fillA, rep0, valP, c80_one]; done) | (show List.all (fillA (rep0 _ _) [(0, c80 x_)]) AV.one = true; simp [fillA, rep0, c80_one, c80_len])) rfl fun st b_68 hs => ?_
        obtain ⟨g_69, hF⟩ := grd_some hF
        refine ap (ys := ls (some ([x_] : List T80))) hs 4 rfl rfl (ae_rd (rd_W (o := (some ([x_] : List T80))) (id := b_68) rfl)) g_69 (fun _ => rfl) fun st b_70 hs => ?_
        refine rn 3 rfl ?_
        exact ih (.p2 bytes k t63_ t64_ (IntKind.wrap .i64 (t65_ + 1)) r_60.2.1 r_60.2.2 m_66 (sapp l (ls (some ([x_] : List T80))))) _ hF _ _ io0 io1 io2 b_70 ⟨rfl, rfl, rfl, rfl, rfl, rfl, rfl, rfl, rfl, rfl, trivial⟩ (hs.p 6 [1, 1, 1, 1] rfl)
noncomputable def F22 (m : T27) (n : T27) : Option (Str × Bool × Int) := (F32 m >>= fun r_1 => (if (r_1.2 != 0) = true then (some (([] : Str), false, r_1.2)) else (F32 n >>= fun r_5 => (if (r_5.2 != 0) = true then (some (([] : Str), false, r_5.2)) else (F41 r_1.1 (some ([0] : List Int)) >>= fun r_16 => (F41 r_5.1 (some ([0] : List Int)) >>= fun r_18 => (F39 ({ a := r_16, b := r_18, text := [] } : T80) r_1.1 r_5.1 >>= fun r_20 => (if r_20.1 = true then (some (([] : Str), true, 0)) else (F42 ({ a := r_16, b := r_18, text := [] } : T80) >>= fun r_24 => (some (Mp.put (Mp.empty : Mp Str Bool) r_24 true) >>= fun m_27 => (F43 r_20.2.1 r_20.2.2 >>= fun r_30 => (G22 (.p1 r_30 0 r_20.2.1 r_20.2.2 m_27 (some ([({ a := r_16, b := r_18, text := [] } : T80)] : List T80)))))))))))))))
theorem d22 (m : T27) (n : T27) (r : Str × Bool × Int) (hF : F22 m n = some r) : DFun Tryd.prog gE 22 [v27 m, v27 n, .fn 23 []] (AV.tup [AV.str r.1, AV.bool r.2.1, AV.int .i64 r.2.2]) := by
 unfold F22 at hF
 refine bD k22 rfl ?_
 have hs : SH [] [] := SH.nil
 generalize ([] : Store) = st at hs ⊢
 refine rn 0 rfl ?_
 refine W.o (e_boxD (cs := c27 m) rfl (by rw [c27_len]; rfl) (c27_one _)) ?_
 refine W.o (e_boxD (cs := c27 n) rfl (by rw [c27_len]; rfl) (c27_one _)) ?_
 refine W.o (e_boxD (cs := [.fn 23 []]) rfl rfl rfl) ?_
 refine rn 3 rfl ?_
 refine W.o (e_loadND rfl (DP.refl _) (c27_len _)) ?_
 obtain ⟨r_1, g_2, hF⟩ := bind_some hF
 refine df (d32 m _ g_2) rfl ?_
 refine rn 3 rfl ?_
 refine al hs (cs := c45 ({ Groups := 0, Slots := 0, Code := none } : T45)) rfl fun st b_3 hs => ?_
 refine sl hs 0 rfl rfl (LR.whole _ _) (c45_len _) rfl (c45_len _) (c45_one _) rfl fun st hs => ?_
 refine rn 3 rfl ?_
 refine ci hF rfl (fun c_4 hF => ?_) (fun c_4 hF => ?_)
 · refine rn 4 rfl ?_
   cases hF
   exact rD (rlt (rlt (rlt rl0))) rfl
 · refine rn 0 rfl ?_
   refine W.o (e_loadND rfl (DP.refl _) (c27_len _)) ?_
   obtain ⟨r_5, g_6, hF⟩ := bind_some hF
   refine df (d32 n _ g_6) rfl ?_
   refine rn 3 rfl ?_
   refine al hs (cs := c45 ({ Groups := 0, Slots := 0, Code := none } : T45)) rfl fun st b_7 hs => ?_
   refine sl hs 0 rfl rfl (LR.whole _ _) (c45_len _) rfl (c45_len _) (c45_one _) rfl fun st hs => ?_
   refine rn 3 rfl ?_
   refine ci hF rfl (fun c_8 hF => ?_) (fun c_8 hF => ?_)
   · refine rn 4 rfl ?_
     cases hF
     exact rD (rlt (rlt (rlt rl0))) rfl
   · refine rn 2 rfl ?_
     refine drn hs fun s_9 st h0 hs => ?_
     refine de rfl (lN (s := c45 r_1.1) rfl (h0.g 1 rfl) rfl rfl) ?_
     refine dbs (f := AV.int .i64) ([0] : List Int) hs 0 rfl rfl rfl rfl rfl rfl fun st hs => ?_
     refine de rfl (lN (s := c45 r_5.1) rfl (h0.g 0 rfl) rfl rfl) ?_
     refine dbs (f := AV.int .i64) ([0] : List Int) hs 1 rfl rfl rfl rfl rfl rfl fun st hs => ?_
     refine dal hs 2 (cs := c80 ({ a := none, b := none, text := [] } : T80)) rfl rfl rfl fun st hs => ?_
     obtain ⟨r_16, g_17, hF⟩ := bind_some hF
     refine dkl 39 (A := [v45 r_1.1]) (B := []) (es := 1) (g := AV.int .i64) (m := ([0] : List Int)) hs 0 (by kernel_rfl) (d41 r_1.1 (some ([0] : List Int)) _ g_17) (.tail _ (.head _)) rfl rfl (Nat.le_add_right _ _) rfl fun st hs => ?_
     obtain ⟨r_18, g_19, hF⟩ := bind_some hF
     refine dkl 42 (A := [v45 r_5.1]) (B := []) (es := 1) (g := AV.int .i64) (m := ([0] : List Int)) hs 0 (by kernel_rfl) (d41 r_5.1 (some ([0] : List Int)) _ g_19) (.tail _ (.head _)) rfl rfl (Nat.le_add_right _ _) rfl fun st hs => ?_
     refine de rfl (e_build (z := [.nils, .nils, (.str [])]) (cs := c80 ({ a := r_16, b := r_18, text := [] } : T80)) (pk_cons (cs := cSl 1 (AV.int .i64) r_16) (v := slV 1 (AV.int .i64) r_16) rfl slV_cells (cSl_len _) (by decide) (pk_cons (cs := cSl 1 (AV.int .i64) r_18) (v := slV 1 (AV.int .i64) r_18) rfl slV_cells (cSl_len _) (by decide) pk_nil)) (show fillA (c80 ({ a := none, b := none, text := [] } : T80)) _ = _ from (fl_cons (lrx 0 1 (cSl 1 (AV.int .i64) r_16) rfl rfl) ((cSl_len _).trans (cSl_len _).symm) (fl_cons (lrx 1 1 (cSl 1 (AV.int .i64) r_18) rfl rfl) ((cSl_len _).trans (cSl_len _).symm) (fl_nil _))))) ?_
     refine dz ?_
     refine sl hs 0 rfl rfl (LR.whole _ _) (c80_len _) rfl (c80_len _) (c80_one _) rfl fun st hs => ?_
     refine rn 1 rfl ?_
     refine W.o (lN (s := c80 ({ a := r_16, b := r_18, text := [] } : T80)) rfl (hs.g 0 rfl) rfl rfl) ?_
     obtain ⟨r_20, g_21, hF⟩ := bind_some hF
     refine cv rfl (by kernel_rfl) (ale rfl) (d39 ({ a := r_16, b := r_18, text := [] } : T80) r_1.1 r_5.1 _ g_21 _ _ b_3 b_7 (fun st hs => ?_) _ (hs.p 3 [2, 1, 0] rfl))
     refine rn 0 rfl ?_
     refine ci hF rfl (fun c_22 hF => ?_) (fun c_22 hF => ?_)
     · refine rn 3 rfl ?_
       cases hF
       exact rD (rlt (rlt (rlt rl0))) rfl
     · refine rn 0 rfl ?_
       refine mkS AV.bool hs fun st b_23 hs => ?_
       refine W.o (lN (s := c80 ({ a := r_16, b := r_18, text := [] } : T80)) rfl (hs.g 3 rfl) rfl rfl) ?_
       obtain ⟨r_24, g_25, hF⟩ := bind_some hF
       refine df (d42 ({ a := r_16, b := r_18, text := [] } : T80) _ g_25) rfl ?_
       obtain ⟨m_27, e_28, hF⟩ := let_some hF
       refine msS (f := AV.bool) true hs 0 rfl rfl rfl rfl rfl fun st hs => ?_
       rw [e_28] at hs
       refine rn 2 rfl ?_
       refine W.o (lN (s := c80 ({ a := r_16, b := r_18, text := [] } : T80)) rfl (hs.g 3 rfl) rfl rfl) ?_
       refine bs (f := v80) ([({ a := r_16, b := r_18, text := [] } : T80)] : List T80) hs rfl rfl (by first | (simp [fillA, rep0, valP, c80_one]; done) | (show List.all (fillA (rep0 _ _) [(0, c80 ({ a := r_16, b := r_18, text := [] } : T80))]) AV.one = true; simp [fillA, rep0, c80_one, c80_len])) rfl fun st b_29 hs => ?_
       refine rn 1 rfl ?_
       refine W.o (lN (s := c45 r_20.2.1) rfl (hs.g 2 rfl) rfl rfl) ?_
       refine W.o (lN (s := c45 r_20.2.2) rfl (hs.g 3 rfl) rfl rfl) ?_
       obtain ⟨r_30, g_31, hF⟩ := bind_some hF
       refine df (d43 r_20.2.1 r_20.2.2 _ g_31) rfl ?_
       refine rn 2 rfl ?_
       exact w22 (.p1 r_30 0 r_20.2.1 r_20.2.2 m_27 (some ([({ a := r_16, b := r_18, text := [] } : T80)] : List T80))) _ hF _ _ b_3 b_7 b_23 b_29 ⟨rfl, rfl, rfl, rfl, rfl, rfl, rfl, trivial⟩ (hs.p 5 [2, 2, 1, 0] rfl)
def C13_1 : ACode := .s (.ops [q 2 (.boxD 9 0), q 3 (.boxD 9 1), q 4 (.mv (.c (.bool false))), q 5 (.mv (.c (.str []))), q 6 (.mv (ki 0))]) (.s (.ops [q 11 (.loadN 9 2), q 12 (.loadN 9 3), qc 13 22 [11, 12, (.c (.fn 23 []))], q 10 (.mv 13), q 14 (.extract 10 0), q 15 (.extract 10 1), q 16 (.extract 10 2), q 7 (.mv 14), q 8 (.mv 15), q 9 (.mv 16)]) (.s (.ops [q 17 (.mv 8), q 18 (.un .not 17), q 19 (.mv 18), (q 20 (.mv 9)).y 19, (q 21 (.binI .eql 20 (ki 0))).y 19, q 22 (.pick 19 21 (.c (.bool false))), q 23 (.mv 7), q 24 (.mv 9), q 4 (.mv 22), q 5 (.mv 23), q 6 (.mv 24)]) .ret))
def R13 : List RA := [(.tmp 4), (.tmp 5), (.tmp 6)]
theorem k13 : compF Tryd.prog (muL [2, 3]) 13 = some ⟨25, C13_1, R13⟩ := by kernel_rfl
noncomputable abbrev X13 (r : Bool × Str × Int) : Cx := cD Tryd.prog gE 25 R13 (AV.tup [AV.bool r.1, AV.str r.2.1, AV.int .i64 r.2.2]) [2, 3]
noncomputable def F13 (a : T27) (b : T27) : Option (Bool × Str × Int) := (F22 a b >>= fun r_1 => (if (!r_1.2.1) = true then (some ((r_1.2.2 == 0), r_1.1, r_1.2.2)) else (some (false, r_1.1, r_1.2.2))))
theorem d13 (a : T27) (b : T27) (r : Bool × Str × Int) (hF : F13 a b = some r) : DFun Tryd.prog gE 13 [v27 a, v27 b] (AV.tup [AV.bool r.1, AV.str r.2.1, AV.int .i64 r.2.2]) := by
 unfold F13 at hF
 refine bD k13 rfl ?_
 have hs : SH [] [] := SH.nil
 generalize ([] : Store) = st at hs ⊢
 refine rn 0 rfl ?_
 refine W.o (e_boxD (cs := c27 a) rfl (by rw [c27_len]; rfl) (c27_one _)) ?_
 refine W.o (e_boxD (cs := c27 b) rfl (by rw [c27_len]; rfl) (c27_one _)) ?_
 refine rn 3 rfl ?_
 refine W.o (e_loadND rfl (DP.refl _) (c27_len _)) ?_
 refine W.o (e_loadND rfl (DP.refl _) (c27_len _)) ?_
 obtain ⟨r_1, g_2, hF⟩ := bind_some hF
 refine df (d22 a b _ g_2) rfl ?_
 refine rn 10 rfl ?_
 refine bi hF (fun c_3 hF => ?_) (fun c_3 hF => ?_)
 · refine wfx 19 rfl c_3 ?_
   refine rn 8 rfl ?_
   cases hF
   exact rD (rlt (rlt (rlt rl0))) rfl
 · refine wfx 19 rfl c_3 ?_
   refine rn 8 rfl ?_
   cases hF
   exact rD (rlt (rlt (rlt rl0))) rfl
def C39v2_1 : ACode := .s (.ops [q 4 (.boxD 3 0), q 5 (.mv (.c (.bool false)))]) (.s (.draw [] 0 0 [q 6 (.load1 1), q 7 (.loadN 3 2), q 8 (.faddr 0 4), q 9 (.load1 8), q 11 (.loadN 3 3), q 12 (.faddr 1 4), q 13 (.load1 12), qc 10 40 [7, 9], qc 14 40 [11, 13]] [qf 15 6 [10, 14], q 5 (.mv 15)]) .ret)
def R39v2 : List RA := [(.tmp 5)]
theorem k39v2 : compF Tryd.prog (muL [4]) 39 = some ⟨16, C39v2_1, R39v2⟩ := by kernel_rfl
noncomputable abbrev X39v2 (K : AV → Store → Prop) : Cx := cK Tryd.prog gE 16 R39v2 (isK K) [4]
noncomputable def F39v2 (x_ : T80) (q0_ : T45) (q1_ : T45) : Option (Bool × T45 × T45) := (F40 q0_ x_.a >>= fun r_1 => (F40 q1_ x_.b >>= fun r_3 => (F30 r_1 r_3 >>= fun r_5 => (some (r_5, q0_, q1_)))))
theorem d39v2 (x_ : T80) (q0_ : T45) (q1_ : T45) (r : Bool × T45 × T45) (hF : F39v2 x_ q0_ q1_ = some r) : ∀ (K : AV → Store → Prop) (Ls : List Asn) (iQ0 : Nat) (iQ1 : Nat), (∀ st, SH st (pt iQ0 (.cells (c45 r.2.1)) :: pt iQ1 (.cells (c45 r.2.2)) :: Ls) → K (AV.bool r.1) st) → ∀ (st : Store), SH st (pt iQ0 (.cells (c45 q0_)) :: pt iQ1 (.cells (c45 q1_)) :: Ls) → XCall Tryd.prog gE 39 [v80 x_, .dptr [.fn 30 []], .ptr iQ0 0, .ptr iQ1 0] st K := by
 unfold F39v2 at hF
 intro K Ls iQ0 iQ1 hK  st hs
 refine bS k39v2 rfl ?_
 refine rn 0 rfl ?_
 refine W.o (e_boxD (cs := c80 x_) rfl rfl (c80_one _)) ?_
 refine rn 1 rfl ?_
 have h0 := hs
 refine dr0 ?_
 refine de rfl (l1D rfl rfl) ?_
 refine de rfl (lN (s := c45 q0_) rfl (h0.g 0 rfl) rfl rfl) ?_
 refine de rfl (e_faddrD rfl) ?_
 refine de rfl (l1D rfl (by first | rfl | (rw [slV_cells]; rfl))) ?_
 refine de rfl (lN (s := c45 q1_) rfl (h0.g 1 rfl) rfl rfl) ?_
 refine de rfl (e_faddrD rfl) ?_
 refine de rfl (l1D rfl (by first | rfl | (rw [slV_cells]; rfl))) ?_
 obtain ⟨r_1, g_2, hF⟩ := bind_some hF
 refine ddf (d40 q0_ x_.a _ g_2) rfl ?_
 obtain ⟨r_3, g_4, hF⟩ := bind_some hF
 refine ddf (d40 q1_ x_.b _ g_4) rfl ?_
 refine dz ?_
 obtain ⟨r_5, g_6, hF⟩ := bind_some hF
 refine cvd rfl (by kernel_rfl) (d30 r_1 r_3 _ g_6) rfl ?_
 refine rn 1 rfl ?_
 cases hF
 exact rS (rlt rl0) (hK _ hs) rfl
def C22v2_61 : ACode := .cond 66 .skip (.exit 2)
def O22v2_69q1 : List AOp := qc 76 44 [69, 74, 75] :: qc 84 44 [77, 82, 83] :: q 94 (.build [.nils, .nils, (.str [])] [(0, (1, 76)), (1, (1, 84)), (2, (1, 93))]) :: []
def O22v2_69q0 : List AOp := q 69 (.loadN 3 9) :: q 70 (.mv 15) :: q 71 (.mv 17) :: q 72 (.iaddrL 3 70 71) :: q 73 (.faddr 0 72) :: q 74 (.load1 73) :: q 75 (.mv 19) :: q 77 (.loadN 3 11) :: q 78 (.mv 15) :: q 79 (.mv 17) :: q 80 (.iaddrL 3 78 79) :: q 81 (.faddr 1 80) :: q 82 (.load1 81) :: q 83 (.mv 19) :: q 85 (.mv 15) :: q 86 (.mv 17) :: q 87 (.iaddrL 3 85 86) :: q 88 (.faddr 2 87) :: q 89 (.load1 88) :: q 90 (.mv 19) :: q 91 (.bslice 1 1 false [(.int .u8 0)] [(0, (1, 90))] false) :: q 92 (.b2s 91) :: q 93 (.binS .add 89 92) :: q 20 (.alloc [.nils, .nils, (.str [])]) :: O22v2_69q1
def C22v2_73 : ACode := .cond 110 (.exit 3) .skip
def C22v2_76 : ACode := .s (.s (.ops [q 111 (.mv 15), q 112 (.len 111), q 113 (.binI .eql 112 (ki 4096))]) (.cond 113 (.s (.ops [q 6 (.mv (.c (.str []))), q 7 (.mv (.c (.bool false))), q 8 (.mv (ki 3))]) .ret) .skip)) (.s (.s (.ops [q 114 (.mv 12), q 115 (.loadN 3 20), qf 116 114 [115]]) (.cond 116 (.s (.ops [q 117 (.faddr 2 20), q 118 (.load1 117), q 6 (.mv 118), q 7 (.mv (.c (.bool true))), q 8 (.mv (ki 0))]) .ret) .skip)) (.s (.ops [q 119 (.mv 14), q 120 (.loadN 3 20), qc 121 42 [120], q0 (.mapset .none 119 121 (.c (.bool true)))]) (.ops [q 122 (.mv 15), q 123 (.loadN 3 20), q 124 (.bslice 3 1 true [.nils, .nils, (.str [])] [(0, (3, 123))] false), q 125 (.app 3 64 122 124), q 15 (.mv 125)])))
def C22v2_95 : ACode := .ops [q 126 (.binI .add 65 (ki 1)), q 65 (.mv 126)]
def C22v2_64 : ACode := .s (.block 3 (.s (.ops [q 67 (.iaddrL 1 63 65), q 68 (.load1 67), q 19 (.mv 68)]) (.s (.draw [] 0 2 O22v2_69q0 [q0 (.store 3 20 94)]) (.s (.s (.ops [q 95 (.faddr 0 20), q 96 (.load1 95), q 97 (.len 96), q 98 (.binI .eql 97 (ki 0)), q 99 (.mv 98), (q 100 (.faddr 1 20)).y 99, (q 101 (.load1 100)).y 99, (q 102 (.len 101)).y 99, (q 103 (.binI .eql 102 (ki 0))).y 99, q 104 (.pick 99 103 (.c (.bool false))), q 105 (.mv 104), (q 106 (.mv 14)).n 105, (q 107 (.loadN 3 20)).n 105, (qc 108 42 [107]).n 105, (q 109 (.lookup .none (.bool false) false 106 108)).n 105, q 110 (.pick 105 (.c (.bool true)) 109)]) C22v2_73) C22v2_76)))) C22v2_95
def C22v2_58 : ACode := .s (.ops [q 66 (.binI .lss 65 64)]) (.s C22v2_61 C22v2_64)
def C22v2_96 : ACode := .ops [q 61 (.mv 17), q 62 (.binI .add 61 (ki 1)), q 17 (.mv 62)]
def C22v2_46 : ACode := .s (.s (.ops [q 57 (.mv 17), q 58 (.mv 15), q 59 (.len 58), q 60 (.binI .lss 57 59)]) (.cond 60 .skip (.exit 0))) (.s (.block 1 (.s (.ops [q 63 (.mv 16), q 64 (.len 63), q 65 (.mv (ki 0))]) (.block 2 (.loop C22v2_58)))) C22v2_96)
def C22v2_97 : ACode := .s (.ops [q 6 (.mv (.c (.str []))), q 7 (.mv (.c (.bool false))), q 8 (.mv (ki 0))]) .ret
def C22v2_41 : ACode := .s (.s (.ops [q 17 (.mv (ki 0))]) (.block 0 (.loop C22v2_46))) C22v2_97
def C22v2_1 : ACode := .s (.ops [q 3 (.boxD 9 0), q 4 (.boxD 9 1), q 5 (.boxD 1 2), q 6 (.mv (.c (.str []))), q 7 (.mv (.c (.bool false))), q 8 (.mv (ki 0))]) (.s (.ops [q 22 (.loadN 9 3), qc 23 32 [22], q 21 (.mv 23), q 24 (.extract 21 0), q 25 (.extract 21 1), q 9 (.alloc [(.int .i64 0), (.int .i64 0), .nils]), q0 (.store 3 9 24), q 10 (.mv 25)]) (.s (.s (.ops [q 26 (.mv 10), q 27 (.binI .neq 26 (ki 0))]) (.cond 27 (.s (.ops [q 28 (.mv 10), q 6 (.mv (.c (.str []))), q 7 (.mv (.c (.bool false))), q 8 (.mv 28)]) .ret) .skip)) (.s (.ops [q 30 (.loadN 9 4), qc 31 32 [30], q 29 (.mv 31), q 32 (.extract 29 0), q 33 (.extract 29 1), q 11 (.alloc [(.int .i64 0), (.int .i64 0), .nils]), q0 (.store 3 11 32), q 10 (.mv 33)]) (.s (.s (.ops [q 34 (.mv 10), q 35 (.binI .neq 34 (ki 0))]) (.cond 35 (.s (.ops [q 36 (.mv 10), q 6 (.mv (.c (.str []))), q 7 (.mv (.c (.bool false))), q 8 (.mv 36)]) .ret) .skip)) (.s (.ops [q 37 (.mkfn 39 [5, 9, 11]), q 12 (.mv 37)]) (.s (.draw [] 0 3 [q 38 (.loadN 3 9), q 39 (.bslice 1 1 false [(.int .i64 0)] [(0, (1, (ki 0)))] false), q 41 (.loadN 3 11), q 42 (.bslice 1 1 false [(.int .i64 0)] [(0, (1, (ki 0)))] false), q 13 (.alloc [.nils, .nils, (.str [])]), qf 40 (.c (.fn 41 [])) [38, 39], qf 43 (.c (.fn 41 [])) [41, 42], q 44 (.build [.nils, .nils, (.str [])] [(0, (1, 40)), (1, (1, 43))])] [q0 (.store 3 13 44)]) (.s (.s (.ops [q 45 (.mv 12), q 46 (.loadN 3 13), qf 47 45 [46]]) (.cond 47 (.s (.ops [q 6 (.mv (.c (.str []))), q 7 (.mv (.c (.bool true))), q 8 (.mv (ki 0))]) .ret) .skip)) (.s (.ops [q 48 (.mkmap .none), q 49 (.loadN 3 13), qc 50 42 [49], q0 (.mapset .none 48 50 (.c (.bool true))), q 51 (.mv 48), q 14 (.mv 51)]) (.s (.ops [q 52 (.loadN 3 13), q 53 (.bslice 3 1 true [.nils, .nils, (.str [])] [(0, (3, 52))] false), q 15 (.mv 53)]) (.s (.ops [q 54 (.loadN 3 9), q 55 (.loadN 3 11), qc 56 43 [54, 55], q 16 (.mv 56)]) C22v2_41))))))))))
def R22v2 : List RA := [(.tmp 6), (.tmp 7), (.tmp 8)]
theorem k22v2 : compF Tryd.prog (muL [3, 4, 5, 40, 43]) 22 = some ⟨127, C22v2_1, R22v2⟩ := by kernel_rfl
noncomputable abbrev X22v2 (r : Str × Bool × Int) : Cx := cD Tryd.prog gE 127 R22v2 (AV.tup [AV.str r.1, AV.bool r.2.1, AV.int .i64 r.2.2]) [3, 4, 5, 40, 43]
inductive St22v2 where
 | p1 (bytes : Sl Int) (k : Int) (p : T45) (q_ : T45) (seen : Mp Str Bool) (l : Sl T80)
 | p2 (bytes : Sl Int) (k : Int) (t63_ : Sl Int) (t64_ : Int) (t65_ : Int) (p : T45) (q_ : T45) (seen : Mp Str Bool) (l : Sl T80)
 | p3 (bytes : Sl Int) (k : Int) (t63_ : Sl Int) (t64_ : Int) (t65_ : Int) (t110_ : Bool) (p : T45) (q_ : T45) (seen : Mp Str Bool) (l : Sl T80) (x_ : T80)
noncomputable def G22v2 : St22v2 → Option (Str × Bool × Int) | .p1 bytes k p q_ seen l => (if (decide (k < ((ls l).length : Int))) = true then (G22v2 (.p2 bytes k bytes ((ls bytes).length : Int) 0 p q_ seen l)) else (some (([] : Str), false, 0))) | .p2 bytes k t63_ t64_ t65_ p q_ seen l => (if (decide (t65_ < t64_)) = true then (ix (ls t63_) t65_ >>= fun v_34 => (ix (ls l) k >>= fun v_39 => (ix (ls l) k >>= fun v_41 => (ix (ls l) k >>= fun v_43 => (if (v_43.text).length + (toBs (ls (some ([v_34] : List Int)))).length ≤ 9223372036854775807 then (F44 p v_39.a v_34 >>= fun r_48 => (F44 q_ v_41.b v_34 >>= fun r_50 => (if (((ls r_48).length : Int) == 0) = true then (if (((ls r_50).length : Int) == 0) = true then (G22v2 (.p2 bytes k t63_ t64_ (IntKind.wrap .i64 (t65_ + 1)) p q_ seen l)) else (F42 ({ a := r_48, b := r_50, text := v_43.text ++ (toBs (ls (some ([v_34] : List Int)))) } : T80) >>= fun r_54 => (G22v2 (.p3 bytes k t63_ t64_ t65_ (Option.getD (Mp.get seen r_54) false) p q_ seen l ({ a := r_48, b := r_50, text := v_43.text ++ (toBs (ls (some ([v_34] : List Int)))) } : T80))))) else (F42 ({ a := r_48, b := r_50, text := v_43.text ++ (toBs (ls (some ([v_34] : List Int)))) } : T80) >>= fun r_56 => (G22v2 (.p3 bytes k t63_ t64_ t65_ (Option.getD (Mp.get seen r_56) false) p q_ seen l ({ a := r_48, b := r_50, text := v_43.text ++ (toBs (ls (some ([v_34] : List Int)))) } : T80))))))) else none))))) else (G22v2 (.p1 bytes (IntKind.wrap .i64 (k + 1)) p q_ seen l))) | .p3 bytes k t63_ t64_ t65_ t110_ p q_ seen l x_ => (if t110_ = true then (G22v2 (.p2 bytes k t63_ t64_ (IntKind.wrap .i64 (t65_ + 1)) p q_ seen l)) else (if (((ls l).length : Int) == 4096) = true then (some (([] : Str), false, 3)) else (F39v2 x_ p q_ >>= fun r_60 => (if r_60.1 = true then (some (x_.text, true, 0)) else (F42 x_ >>= fun r_63 => (some (Mp.put seen r_63 true) >>= fun m_66 => (if ((ls l).length + (ls (some ([x_] : List T80))).length) * 64 ≤ 140737488355328 then (G22v2 (.p2 bytes k t63_ t64_ (IntKind.wrap .i64 (t65_ + 1)) r_60.2.1 r_60.2.2 m_66 (sapp l (ls (some ([x_] : List T80)))))) else none))))))) partial_fixpoint
def M22v2 (x : St22v2) (r : Str × Bool × Int) : Prop := match x with | .p1 bytes k p q_ seen l => ∀ (tm : Fr) (st : Store) (io0 : Nat) (io1 : Nat) (io2 : Nat) (io3 : Nat), Frm tm [(9, .ptr io0 0), (11, .ptr io1 0), (12, .fn 39 [.dptr [.fn 30 []], .ptr io0 0, .ptr io1 0]), (14, .mp io2), (15, ownV 3 v80 l io3), (16, slV 1 (AV.int .u8) bytes), (17, AV.int .i64 k)] → SH st [pt io0 (.cells (c45 p)), pt io1 (.cells (c45 q_)), pt io2 (.map none (mS AV.bool seen) seen.n), ownA io3 l] → W (X22v2 r) [.lp C22v2_46, .blk 0, .code C22v2_97] tm st | .p2 bytes k t63_ t64_ t65_ p q_ seen l => ∀ (tm : Fr) (st : Store) (io0 : Nat) (io1 : Nat) (io2 : Nat) (io3 : Nat), Frm tm [(9, .ptr io0 0), (11, .ptr io1 0), (12, .fn 39 [.dptr [.fn 30 []], .ptr io0 0, .ptr io1 0]), (14, .mp io2), (15, ownV 3 v80 l io3), (16, slV 1 (AV.int .u8) bytes), (17, AV.int .i64 k), (63, slV 1 (AV.int .u8) t63_), (64, AV.int .i64 t64_), (65, AV.int .i64 t65_)] → SH st [pt io0 (.cells (c45 p)), pt io1 (.cells (c45 q_)), pt io2 (.map none (mS AV.bool seen) seen.n), ownA io3 l] → W (X22v2 r) [.lp C22v2_58, .blk 2, .blk 1, .code C22v2_96, .lp C22v2_46, .blk 0, .code C22v2_97] tm st | .p3 bytes k t63_ t64_ t65_ t110_ p q_ seen l x_ => ∀ (tm : Fr) (st : Store) (io0 : Nat) (io1 : Nat) (io2 : Nat) (io3 : Nat) (io4 : Nat), Frm tm [(9, .ptr io0 0), (11, .ptr io1 0), (12, .fn 39 [.dptr [.fn 30 []], .ptr io0 0, .ptr io1 0]), (14, .mp io2), (15, ownV 3 v80 l io3), (16, slV 1 (AV.int .u8) bytes), (17, AV.int .i64 k), (20, .ptr io4 0), (63, slV 1 (AV.int .u8) t63_), (64, AV.int .i64 t64_), (65, AV.int .i64 t65_), (110, AV.bool t110_)] → SH st [pt io0 (.cells (c45 p)), pt io1 (.cells (c45 q_)), pt io2 (.map none (mS AV.bool seen) seen.n), ownA io3 l, pt io4 (.cells (c80 x_))] → W (X22v2 r) [.code C22v2_73, .code C22v2_76, .blk 3, .code C22v2_95, .lp C22v2_58, .blk 2, .blk 1, .code C22v2_96, .lp C22v2_46, .blk 0, .code C22v2_97] tm st
theorem w22v2 : ∀ (x : St22v2) (r : Str × Bool × Int), G22v2 x = some r → M22v2 x r := by
 refine G22v2.partial_correctness (M22v2) ?_
 intro g ih x r hF
 cases x with
 | p1 bytes k p q_ seen l =>
  dsimp only at hF
  intro tm st io0 io1 io2 io3 hf hs
  refine en hf ?_
  refine lp ?_
  refine rn 2 rfl ?_
  refine W.o (e_len (rd_W (o := l) (id := io3) rfl)) ?_
  refine rn 1 rfl ?_
  refine ci hF rfl (fun c_32 hF => ?_) (fun c_32 hF => ?_)
  · refine rn 1 rfl ?_
    refine W.o (e_len (rd_V rfl)) ?_
    refine rn 1 rfl ?_
    exact ih (.p2 bytes k bytes ((ls bytes).length : Int) 0 p q_ seen l) _ hF _ _ io0 io1 io2 io3 ⟨rfl, rfl, rfl, rfl, rfl, rfl, rfl, rfl, rfl, rfl, trivial⟩ hs
  · refine rn 3 rfl ?_
    cases hF
    exact rD (rlt (rlt (rlt rl0))) rfl
 | p2 bytes k t63_ t64_ t65_ p q_ seen l =>
  dsimp only at hF
  intro tm st io0 io1 io2 io3 hf hs
  refine en hf ?_
  refine lp ?_
  refine rn 1 rfl ?_
  refine ci hF rfl (fun c_33 hF => ?_) (fun c_33 hF => ?_)
  · obtain ⟨v_34, g_35, hF⟩ := bind_some hF
    refine rn 0 rfl ?_
    refine W.o (e_iaddrL (rd_V rfl) rfl g_35) ?_
    refine W.o (l1D rfl rfl) ?_
    refine rn 1 rfl ?_
    refine drn hs fun s_36 st h0 hs => ?_
    refine de rfl (lN (s := c45 p) rfl (h0.g 0 rfl) rfl rfl) ?_
    obtain ⟨v_39, g_40, hF⟩ := bind_some hF
    refine dn 2 rfl ?_
    refine de rfl (e_iaddrL (rd_W (o := l) (id := io3) rfl) rfl g_40) ?_
    refine de rfl (e_faddrD rfl) ?_
    refine de rfl (l1D rfl (by first | rfl | (rw [slV_cells]; rfl))) ?_
    refine dn 1 rfl ?_
    refine de rfl (lN (s := c45 q_) rfl (h0.g 1 rfl) rfl rfl) ?_
    obtain ⟨v_41, g_42, hF⟩ := bind_some hF
    refine dn 2 rfl ?_
    refine de rfl (e_iaddrL (rd_W (o := l) (id := io3) rfl) rfl g_42) ?_
    refine de rfl (e_faddrD rfl) ?_
    refine de rfl (l1D rfl (by first | rfl | (rw [slV_cells]; rfl))) ?_
    obtain ⟨v_43, g_44, hF⟩ := bind_some hF
    refine dn 3 rfl ?_
    refine de rfl (e_iaddrL (rd_W (o := l) (id := io3) rfl) rfl g_44) ?_
    refine de rfl (e_faddrD rfl) ?_
    refine de rfl (l1D rfl rfl) ?_
    refine dn 1 rfl ?_
    refine dbs (f := AV.int .u8) ([v_34] : List Int) hs 0 rfl rfl rfl rfl rfl rfl fun st hs => ?_
    refine de rfl (e_b2s (rd_W (o := (some ([v_34] : List Int))) (id := (List.length s_36 + 0)) rfl)) ?_
    obtain ⟨g_46, hF⟩ := grd_some hF
    refine de rfl (e_str rfl rfl (op_cat _ _ g_46)) ?_
    refine dal hs 1 (cs := c80 ({ a := none, b := none, text := [] } : T80)) rfl rfl rfl fun st hs => ?_
    obtain ⟨r_48, g_49, hF⟩ := bind_some hF
    refine ddf (d44 p v_39.a v_34 _ g_49) rfl ?_
    obtain ⟨r_50, g_51, hF⟩ := bind_some hF
    refine ddf (d44 q_ v_41.b v_34 _ g_51) rfl ?_
    refine de rfl (e_build (z := [.nils, .nils, (.str [])]) (cs := c80 ({ a := r_48, b := r_50, text := v_43.text ++ (toBs (ls (some ([v_34] : List Int)))) } : T80)) (pk_cons (cs := cSl 1 (AV.int .i64) r_48) (v := slV 1 (AV.int .i64) r_48) rfl slV_cells (cSl_len _) (by decide) (pk_cons (cs := cSl 1 (AV.int .i64) r_50) (v := slV 1 (AV.int .i64) r_50) rfl slV_cells (cSl_len _) (by decide) (pk_cons (cs := cS (v_43.text ++ (toBs (ls (some ([v_34] : List Int)))))) rfl rfl (cS_len _) (by decide) pk_nil))) (show fillA (c80 ({ a := none, b := none, text := [] } : T80)) _ = _ from (fl_cons (lrx 0 1 (cSl 1 (AV.int .i64) r_48) rfl rfl) ((cSl_len _).trans (cSl_len _).symm) (fl_cons (lrx 1 1 (cSl 1 (AV.int .i64) r_50) rfl rfl) ((cSl_len _).trans (cSl_len _).symm) (fl_cons (lrx 2 1 (cS (v_43.text ++ (toBs (ls (some ([v_34] : List Int)))))) rfl rfl) ((cS_len _).trans (cS_len _).symm) (fl_nil _)))))) ?_
    refine dz ?_
    refine sl hs 1 rfl rfl (LR.whole _ _) (c80_len _) rfl (c80_len _) (c80_one _) rfl fun st hs => ?_
    refine rn 0 rfl ?_
    refine W.o (e_faddr rfl (hs.g 1 rfl)) ?_
    refine W.o (l1 rfl (hs.g 1 rfl) rfl) ?_
    refine W.o (e_len (rd_V rfl)) ?_
    refine rn 2 rfl ?_
    refine bi hF (fun c_52 hF => ?_) (fun c_52 hF => ?_)
    · refine wfx 99 rfl c_52 ?_
      refine W.on rfl rfl ?_
      refine W.o (e_faddr rfl (hs.g 1 rfl)) ?_
      refine W.on rfl rfl ?_
      refine W.o (l1 rfl (hs.g 1 rfl) rfl) ?_
      refine W.on rfl rfl ?_
      refine W.o (e_len (rd_V rfl)) ?_
      refine rn 3 rfl ?_
      refine bi hF (fun c_53 hF => ?_) (fun c_53 hF => ?_)
      · refine wfx 105 rfl c_53 ?_
        refine rn 5 rfl ?_
        refine ct rfl rfl ?_
        refine rn 2 rfl ?_
        exact ih (.p2 bytes k t63_ t64_ (IntKind.wrap .i64 (t65_ + 1)) p q_ seen l) _ hF _ _ io0 io1 io2 io3 ⟨rfl, rfl, rfl, rfl, rfl, rfl, rfl, rfl, rfl, rfl, trivial⟩ (hs.p 6 [2, 2, 2, 2] rfl)
      · refine wfx 105 rfl c_53 ?_
        refine rn 1 rfl ?_
        refine W.on rfl rfl ?_
        refine W.o (lN (s := c80 ({ a := r_48, b := r_50, text := v_43.text ++ (toBs (ls (some ([v_34] : List Int)))) } : T80)) rfl (hs.g 1 rfl) rfl rfl) ?_
        obtain ⟨r_54, g_55, hF⟩ := bind_some hF
        refine W.on rfl rfl ?_
        refine df (d42 ({ a := r_48, b := r_50, text := v_43.text ++ (toBs (ls (some ([v_34] : List Int)))) } : T80) _ g_55) rfl ?_
        refine W.on rfl rfl ?_
        refine W.o (e_lookupS1 (f := AV.bool) (z := false) rfl (hs.g 4 rfl) rfl rfl) ?_
        refine rj 1 1 rfl ?_
        exact ih (.p3 bytes k t63_ t64_ t65_ (Option.getD (Mp.get seen r_54) false) p q_ seen l ({ a := r_48, b := r_50, text := v_43.text ++ (toBs (ls (some ([v_34] : List Int)))) } : T80)) _ hF _ _ io0 io1 io2 io3 (List.length s_36 + 1) ⟨rfl, rfl, rfl, rfl, rfl, rfl, rfl, rfl, rfl, rfl, rfl, rfl, trivial⟩ (hs.p 6 [2, 2, 2, 2, 1] rfl)
    · refine wfx 99 rfl c_52 ?_
      refine rn 7 rfl ?_
      refine W.on rfl rfl ?_
      refine W.o (lN (s := c80 ({ a := r_48, b := r_50, text := v_43.text ++ (toBs (ls (some ([v_34] : List Int)))) } : T80)) rfl (hs.g 1 rfl) rfl rfl) ?_
      obtain ⟨r_56, g_57, hF⟩ := bind_some hF
      refine W.on rfl rfl ?_
      refine df (d42 ({ a := r_48, b := r_50, text := v_43.text ++ (toBs (ls (some ([v_34] : List Int)))) } : T80) _ g_57) rfl ?_
      refine W.on rfl rfl ?_
      refine W.o (e_lookupS1 (f := AV.bool) (z := false) rfl (hs.g 4 rfl) rfl rfl) ?_
      refine rj 1 1 rfl ?_
      exact ih (.p3 bytes k t63_ t64_ t65_ (Option.getD (Mp.get seen r_56) false) p q_ seen l ({ a := r_48, b := r_50, text := v_43.text ++ (toBs (ls (some ([v_34] : List Int)))) } : T80)) _ hF _ _ io0 io1 io2 io3 (List.length s_36 + 1) ⟨rfl, rfl, rfl, rfl, rfl, rfl, rfl, rfl, rfl, rfl, rfl, rfl, trivial⟩ (hs.p 6 [2, 2, 2, 2, 1] rfl)
  · refine rn 3 rfl ?_
    exact ih (.p1 bytes (IntKind.wrap .i64 (k + 1)) p q_ seen l) _ hF _ _ io0 io1 io2 io3 ⟨rfl, rfl, rfl, rfl, rfl, rfl, rfl, trivial⟩ hs
 | p3 bytes k t63_ t64_ t65_ t110_ p q_ seen l x_ =>
  dsimp only at hF
  intro tm st io0 io1 io2 io3 io4 hf hs
  refine en hf ?_
  refine ci hF rfl (fun c_58 hF => ?_) (fun c_58 hF => ?_)
  · refine rn 2 rfl ?_
    exact ih (.p2 bytes k t63_ t64_ (IntKind.wrap .i64 (t65_ + 1)) p q_ seen l) _ hF _ _ io0 io1 io2 io3 ⟨rfl, rfl, rfl, rfl, rfl, rfl, rfl, rfl, rfl, rfl, trivial⟩ (hs.p 5 [0, 0, 0, 0] rfl)
  · refine rn 1 rfl ?_
    refine W.o (e_len (rd_W (o := l) (id := io3) rfl)) ?_
    refine rn 1 rfl ?_
    refine ci hF rfl (fun c_59 hF => ?_) (fun c_59 hF => ?_)
    · refine rn 3 rfl ?_
      cases hF
      exact rD (rlt (rlt (rlt rl0))) rfl
    · refine rn 1 rfl ?_
      refine W.o (lN (s := c80 x_) rfl (hs.g 4 rfl) rfl rfl) ?_
      obtain ⟨r_60, g_61, hF⟩ := bind_some hF
      refine cv rfl (by kernel_rfl) (ale rfl) (d39v2 x_ p q_ _ g_61 _ _ io0 io1 (fun st hs => ?_) _ hs)
      refine rn 0 rfl ?_
      refine ci hF rfl (fun c_62 hF => ?_) (fun c_62 hF => ?_)
      · refine rn 0 rfl ?_
        refine W.o (e_faddr rfl (hs.g 4 rfl)) ?_
        refine W.o (l1 rfl (hs.g 4 rfl) rfl) ?_
        refine rn 3 rfl ?_
        cases hF
        exact rD (rlt (rlt (rlt rl0))) rfl
      · refine rn 1 rfl ?_
        refine W.o (lN (s := c80 x_) rfl (hs.g 4 rfl) rfl rfl) ?_
        obtain ⟨r_63, g_64, hF⟩ := bind_some hF
        refine df (d42 x_ _ g_64) rfl ?_
        obtain ⟨m_66, e_67, hF⟩ := let_some hF
        refine msS (f := AV.bool) true hs 2 rfl rfl rfl rfl rfl fun st hs => ?_
        rw [e_67] at hs
        refine rn 1 rfl ?_
        refine W.o (lN (s := c80 x_) rfl (hs.g 4 rfl) rfl rfl) ?_
        refine bs (f := v80) ([x_] : List T80) hs rfl rfl (by first | (simp [fillA, rep0, valP, c80_one]; done) | (show List.all (fillA (rep0 _ _) [(0, c80 x_)]) AV.one = true; simp [fillA, rep0, c80_one, c80_len])) rfl fun st b_68 hs => ?_
        obtain ⟨g_69, hF⟩ := grd_some hF
        refine ap (ys := ls (some ([x_] : List T80))) hs 4 rfl rfl (ae_rd (rd_W (o := (some ([x_] : List T80))) (id := b_68) rfl)) g_69 (fun _ => rfl) fun st b_70 hs => ?_
        refine rn 3 rfl ?_
        exact ih (.p2 bytes k t63_ t64_ (IntKind.wrap .i64 (t65_ + 1)) r_60.2.1 r_60.2.2 m_66 (sapp l (ls (some ([x_] : List T80))))) _ hF _ _ io0 io1 io2 b_70 ⟨rfl, rfl, rfl, rfl, rfl, rfl, rfl, rfl, rfl, rfl, trivial⟩ (hs.p 6 [1, 1, 1, 1] rfl)
noncomputable def F22v2 (m : T27) (n : T27) : Option (Str × Bool × Int) := (F32 m >>= fun r_1 => (if (r_1.2 != 0) = true then (some (([] : Str), false, r_1.2)) else (F32 n >>= fun r_5 => (if (r_5.2 != 0) = true then (some (([] : Str), false, r_5.2)) else (F41 r_1.1 (some ([0] : List Int)) >>= fun r_16 => (F41 r_5.1 (some ([0] : List Int)) >>= fun r_18 => (F39v2 ({ a := r_16, b := r_18, text := [] } : T80) r_1.1 r_5.1 >>= fun r_20 => (if r_20.1 = true then (some (([] : Str), true, 0)) else (F42 ({ a := r_16, b := r_18, text := [] } : T80) >>= fun r_24 => (some (Mp.put (Mp.empty : Mp Str Bool) r_24 true) >>= fun m_27 => (F43 r_20.2.1 r_20.2.2 >>= fun r_30 => (G22v2 (.p1 r_30 0 r_20.2.1 r_20.2.2 m_27 (some ([({ a := r_16, b := r_18, text := [] } : T80)] : List T80)))))))))))))))
theorem d22v2 (m : T27) (n : T27) (r : Str × Bool × Int) (hF : F22v2 m n = some r) : DFun Tryd.prog gE 22 [v27 m, v27 n, .fn 30 []] (AV.tup [AV.str r.1, AV.bool r.2.1, AV.int .i64 r.2.2]) := by
 unfold F22v2 at hF
 refine bD k22v2 rfl ?_
 have hs : SH [] [] := SH.nil
 generalize ([] : Store) = st at hs ⊢
 refine rn 0 rfl ?_
 refine W.o (e_boxD (cs := c27 m) rfl (by rw [c27_len]; rfl) (c27_one _)) ?_
 refine W.o (e_boxD (cs := c27 n) rfl (by rw [c27_len]; rfl) (c27_one _)) ?_
 refine W.o (e_boxD (cs := [.fn 30 []]) rfl rfl rfl) ?_
 refine rn 3 rfl ?_
 refine W.o (e_loadND rfl (DP.refl _) (c27_len _)) ?_
 obtain ⟨r_1, g_2, hF⟩ := bind_some hF
 refine df (d32 m _ g_2) rfl ?_
 refine rn 3 rfl ?_
 refine al hs (cs := c45 ({ Groups := 0, Slots := 0, Code := none } : T45)) rfl fun st b_3 hs => ?_
 refine sl hs 0 rfl rfl (LR.whole _ _) (c45_len _) rfl (c45_len _) (c45_one _) rfl fun st hs => ?_
 refine rn 3 rfl ?_
 refine ci hF rfl (fun c_4 hF => ?_) (fun c_4 hF => ?_)
 · refine rn 4 rfl ?_
   cases hF
   exact rD (rlt (rlt (rlt rl0))) rfl
 · refine rn 0 rfl ?_
   refine W.o (e_loadND rfl (DP.refl _) (c27_len _)) ?_
   obtain ⟨r_5, g_6, hF⟩ := bind_some hF
   refine df (d32 n _ g_6) rfl ?_
   refine rn 3 rfl ?_
   refine al hs (cs := c45 ({ Groups := 0, Slots := 0, Code := none } : T45)) rfl fun st b_7 hs => ?_
   refine sl hs 0 rfl rfl (LR.whole _ _) (c45_len _) rfl (c45_len _) (c45_one _) rfl fun st hs => ?_
   refine rn 3 rfl ?_
   refine ci hF rfl (fun c_8 hF => ?_) (fun c_8 hF => ?_)
   · refine rn 4 rfl ?_
     cases hF
     exact rD (rlt (rlt (rlt rl0))) rfl
   · refine rn 2 rfl ?_
     refine drn hs fun s_9 st h0 hs => ?_
     refine de rfl (lN (s := c45 r_1.1) rfl (h0.g 1 rfl) rfl rfl) ?_
     refine dbs (f := AV.int .i64) ([0] : List Int) hs 0 rfl rfl rfl rfl rfl rfl fun st hs => ?_
     refine de rfl (lN (s := c45 r_5.1) rfl (h0.g 0 rfl) rfl rfl) ?_
     refine dbs (f := AV.int .i64) ([0] : List Int) hs 1 rfl rfl rfl rfl rfl rfl fun st hs => ?_
     refine dal hs 2 (cs := c80 ({ a := none, b := none, text := [] } : T80)) rfl rfl rfl fun st hs => ?_
     obtain ⟨r_16, g_17, hF⟩ := bind_some hF
     refine dkl 39 (A := [v45 r_1.1]) (B := []) (es := 1) (g := AV.int .i64) (m := ([0] : List Int)) hs 0 (by kernel_rfl) (d41 r_1.1 (some ([0] : List Int)) _ g_17) (.tail _ (.head _)) rfl rfl (Nat.le_add_right _ _) rfl fun st hs => ?_
     obtain ⟨r_18, g_19, hF⟩ := bind_some hF
     refine dkl 42 (A := [v45 r_5.1]) (B := []) (es := 1) (g := AV.int .i64) (m := ([0] : List Int)) hs 0 (by kernel_rfl) (d41 r_5.1 (some ([0] : List Int)) _ g_19) (.tail _ (.head _)) rfl rfl (Nat.le_add_right _ _) rfl fun st hs => ?_
     refine de rfl (e_build (z := [.nils, .nils, (.str [])]) (cs := c80 ({ a := r_16, b := r_18, text := [] } : T80)) (pk_cons (cs := cSl 1 (AV.int .i64) r_16) (v := slV 1 (AV.int .i64) r_16) rfl slV_cells (cSl_len _) (by decide) (pk_cons (cs := cSl 1 (AV.int .i64) r_18) (v := slV 1 (AV.int .i64) r_18) rfl slV_cells (cSl_len _) (by decide) pk_nil)) (show fillA (c80 ({ a := none, b := none, text := [] } : T80)) _ = _ from (fl_cons (lrx 0 1 (cSl 1 (AV.int .i64) r_16) rfl rfl) ((cSl_len _).trans (cSl_len _).symm) (fl_cons (lrx 1 1 (cSl 1 (AV.int .i64) r_18) rfl rfl) ((cSl_len _).trans (cSl_len _).symm) (fl_nil _))))) ?_
     refine dz ?_
     refine sl hs 0 rfl rfl (LR.whole _ _) (c80_len _) rfl (c80_len _) (c80_one _) rfl fun st hs => ?_
     refine rn 1 rfl ?_
     refine W.o (lN (s := c80 ({ a := r_16, b := r_18, text := [] } : T80)) rfl (hs.g 0 rfl) rfl rfl) ?_
     obtain ⟨r_20, g_21, hF⟩ := bind_some hF
     refine cv rfl (by kernel_rfl) (ale rfl) (d39v2 ({ a := r_16, b := r_18, text := [] } : T80) r_1.1 r_5.1 _ g_21 _ _ b_3 b_7 (fun st hs => ?_) _ (hs.p 3 [2, 1, 0] rfl))
     refine rn 0 rfl ?_
     refine ci hF rfl (fun c_22 hF => ?_) (fun c_22 hF => ?_)
     · refine rn 3 rfl ?_
       cases hF
       exact rD (rlt (rlt (rlt rl0))) rfl
     · refine rn 0 rfl ?_
       refine mkS AV.bool hs fun st b_23 hs => ?_
       refine W.o (lN (s := c80 ({ a := r_16, b := r_18, text := [] } : T80)) rfl (hs.g 3 rfl) rfl rfl) ?_
       obtain ⟨r_24, g_25, hF⟩ := bind_some hF
       refine df (d42 ({ a := r_16, b := r_18, text := [] } : T80) _ g_25) rfl ?_
       obtain ⟨m_27, e_28, hF⟩ := let_some hF
       refine msS (f := AV.bool) true hs 0 rfl rfl rfl rfl rfl fun st hs => ?_
       rw [e_28] at hs
       refine rn 2 rfl ?_
       refine W.o (lN (s := c80 ({ a := r_16, b := r_18, text := [] } : T80)) rfl (hs.g 3 rfl) rfl rfl) ?_
       refine bs (f := v80) ([({ a := r_16, b := r_18, text := [] } : T80)] : List T80) hs rfl rfl (by first | (simp [fillA, rep0, valP, c80_one]; done) | (show List.all (fillA (rep0 _ _) [(0, c80 ({ a := r_16, b := r_18, text := [] } : T80))]) AV.one = true; simp [fillA, rep0, c80_one, c80_len])) rfl fun st b_29 hs => ?_
       refine rn 1 rfl ?_
       refine W.o (lN (s := c45 r_20.2.1) rfl (hs.g 2 rfl) rfl rfl) ?_
       refine W.o (lN (s := c45 r_20.2.2) rfl (hs.g 3 rfl) rfl rfl) ?_
       obtain ⟨r_30, g_31, hF⟩ := bind_some hF
       refine df (d43 r_20.2.1 r_20.2.2 _ g_31) rfl ?_
       refine rn 2 rfl ?_
       exact w22v2 (.p1 r_30 0 r_20.2.1 r_20.2.2 m_27 (some ([({ a := r_16, b := r_18, text := [] } : T80)] : List T80))) _ hF _ _ b_3 b_7 b_23 b_29 ⟨rfl, rfl, rfl, rfl, rfl, rfl, rfl, trivial⟩ (hs.p 5 [2, 2, 1, 0] rfl)
def C15_1 : ACode := .s (.ops [q 2 (.boxD 9 0), q 3 (.boxD 9 1), q 4 (.mv (.c (.bool false))), q 5 (.mv (.c (.str []))), q 6 (.mv (ki 0))]) (.s (.ops [q 11 (.loadN 9 2), q 12 (.loadN 9 3), qc 13 22 [11, 12, (.c (.fn 30 []))], q 10 (.mv 13), q 14 (.extract 10 0), q 15 (.extract 10 1), q 16 (.extract 10 2), q 7 (.mv 14), q 8 (.mv 15), q 9 (.mv 16)]) (.s (.ops [q 17 (.mv 8), q 18 (.un .not 17), q 19 (.mv 18), (q 20 (.mv 9)).y 19, (q 21 (.binI .eql 20 (ki 0))).y 19, q 22 (.pick 19 21 (.c (.bool false))), q 23 (.mv 7), q 24 (.mv 9), q 4 (.mv 22), q 5 (.mv 23), q 6 (.mv 24)]) .ret))
def R15 : List RA := [(.tmp 4), (.tmp 5), (.tmp 6)]
theorem k15 : compF Tryd.prog (muL [2, 3]) 15 = some ⟨25, C15_1, R15⟩ := by kernel_rfl
noncomputable abbrev X15 (r : Bool × Str × Int) : Cx := cD Tryd.prog gE 25 R15 (AV.tup [AV.bool r.1, AV.str r.2.1, AV.int .i64 r.2.2]) [2, 3]
noncomputable def F15 (a : T27) (b : T27) : Option (Bool × Str × Int) := (F22v2 a b >>= fun r_1 => (if (!r_1.2.1) = true then (some ((r_1.2.2 == 0), r_1.1, r_1.2.2)) else (some (false, r_1.1, r_1.2.2))))
theorem d15 (a : T27) (b : T27) (r : Bool × Str × Int) (hF : F15 a b = some r) : DFun Tryd.prog gE 15 [v27 a, v27 b] (AV.tup [AV.bool r.1, AV.str r.2.1, AV.int .i64 r.2.2]) := by
 unfold F15 at hF
 refine bD k15 rfl ?_
 have hs : SH [] [] := SH.nil
 generalize ([] : Store) = st at hs ⊢
 refine rn 0 rfl ?_
 refine W.o (e_boxD (cs := c27 a) rfl (by rw [c27_len]; rfl) (c27_one _)) ?_
 refine W.o (e_boxD (cs := c27 b) rfl (by rw [c27_len]; rfl) (c27_one _)) ?_
 refine rn 3 rfl ?_
 refine W.o (e_loadND rfl (DP.refl _) (c27_len _)) ?_
 refine W.o (e_loadND rfl (DP.refl _) (c27_len _)) ?_
 obtain ⟨r_1, g_2, hF⟩ := bind_some hF
 refine df (d22v2 a b _ g_2) rfl ?_
 refine rn 10 rfl ?_
 refine bi hF (fun c_3 hF => ?_) (fun c_3 hF => ?_)
 · refine wfx 19 rfl c_3 ?_
   refine rn 8 rfl ?_
   cases hF
   exact rD (rlt (rlt (rlt rl0))) rfl
 · refine wfx 19 rfl c_3 ?_
   refine rn 8 rfl ?_
   cases hF
   exact rD (rlt (rlt (rlt rl0))) rfl
def C39v3_1 : ACode := .s (.ops [q 4 (.boxD 3 0), q 5 (.mv (.c (.bool false)))]) (.s (.draw [] 0 0 [q 6 (.load1 1), q 7 (.loadN 3 2), q 8 (.faddr 0 4), q 9 (.load1 8), q 11 (.loadN 3 3), q 12 (.faddr 1 4), q 13 (.load1 12), qc 10 40 [7, 9], qc 14 40 [11, 13]] [qf 15 6 [10, 14], q 5 (.mv 15)]) .ret)
def R39v3 : List RA := [(.tmp 5)]
theorem k39v3 : compF Tryd.prog (muL [4]) 39 = some ⟨16, C39v3_1, R39v3⟩ := by kernel_rfl
noncomputable abbrev X39v3 (K : AV → Store → Prop) : Cx := cK Tryd.prog gE 16 R39v3 (isK K) [4]
noncomputable def F39v3 (x_ : T80) (q0_ : T45) (q1_ : T45) : Option (Bool × T45 × T45) := (F40 q0_ x_.a >>= fun r_1 => (F40 q1_ x_.b >>= fun r_3 => (F31 r_1 r_3 >>= fun r_5 => (some (r_5, q0_, q1_)))))
theorem d39v3 (x_ : T80) (q0_ : T45) (q1_ : T45) (r : Bool × T45 × T45) (hF : F39v3 x_ q0_ q1_ = some r) : ∀ (K : AV → Store → Prop) (Ls : List Asn) (iQ0 : Nat) (iQ1 : Nat), (∀ st, SH st (pt iQ0 (.cells (c45 r.2.1)) :: pt iQ1 (.cells (c45 r.2.2)) :: Ls) → K (AV.bool r.1) st) → ∀ (st : Store), SH st (pt iQ0 (.cells (c45 q0_)) :: pt iQ1 (.cells (c45 q1_)) :: Ls) → XCall Tryd.prog gE 39 [v80 x_, .dptr [.fn 31 []], .ptr iQ0 0, .ptr iQ1 0] st K := by
 unfold F39v3 at hF
 intro K Ls iQ0 iQ1 hK  st hs
 refine bS k39v3 rfl ?_
 refine rn 0 rfl ?_
 refine W.o (e_boxD (cs := c80 x_) rfl rfl (c80_one _)) ?_
 refine rn 1 rfl ?_
 have h0 := hs
 refine dr0 ?_
 refine de rfl (l1D rfl rfl) ?_
 refine de rfl (lN (s := c45 q0_) rfl (h0.g 0 rfl) rfl rfl) ?_
 refine de rfl (e_faddrD rfl) ?_
 refine de rfl (l1D rfl (by first | rfl | (rw [slV_cells]; rfl))) ?_
 refine de rfl (lN (s := c45 q1_) rfl (h0.g 1 rfl) rfl rfl) ?_
 refine de rfl (e_faddrD rfl) ?_
 refine de rfl (l1D rfl (by first | rfl | (rw [slV_cells]; rfl))) ?_
 obtain ⟨r_1, g_2, hF⟩ := bind_some hF
 refine ddf (d40 q0_ x_.a _ g_2) rfl ?_
 obtain ⟨r_3, g_4, hF⟩ := bind_some hF
 refine ddf (d40 q1_ x_.b _ g_4) rfl ?_
 refine dz ?_
 obtain ⟨r_5, g_6, hF⟩ := bind_some hF
 refine cvd rfl (by kernel_rfl) (d31 r_1 r_3 _ g_6) rfl ?_
 refine rn 1 rfl ?_
 cases hF
 exact rS (rlt rl0) (hK _ hs) rfl
def C22v3_61 : ACode := .cond 66 .skip (.exit 2)
def O22v3_69q1 : List AOp := qc 76 44 [69, 74, 75] :: qc 84 44 [77, 82, 83] :: q 94 (.build [.nils, .nils, (.str [])] [(0, (1, 76)), (1, (1, 84)), (2, (1, 93))]) :: []
def O22v3_69q0 : List AOp := q 69 (.loadN 3 9) :: q 70 (.mv 15) :: q 71 (.mv 17) :: q 72 (.iaddrL 3 70 71) :: q 73 (.faddr 0 72) :: q 74 (.load1 73) :: q 75 (.mv 19) :: q 77 (.loadN 3 11) :: q 78 (.mv 15) :: q 79 (.mv 17) :: q 80 (.iaddrL 3 78 79) :: q 81 (.faddr 1 80) :: q 82 (.load1 81) :: q 83 (.mv 19) :: q 85 (.mv 15) :: q 86 (.mv 17) :: q 87 (.iaddrL 3 85 86) :: q 88 (.faddr 2 87) :: q 89 (.load1 88) :: q 90 (.mv 19) :: q 91 (.bslice 1 1 false [(.int .u8 0)] [(0, (1, 90))] false) :: q 92 (.b2s 91) :: q 93 (.binS .add 89 92) :: q 20 (.alloc [.nils, .nils, (.str [])]) :: O22v3_69q1
def C22v3_73 : ACode := .cond 110 (.exit 3) .skip
def C22v3_76 : ACode := .s (.s (.ops [q 111 (.mv 15), q 112 (.len 111), q 113 (.binI .eql 112 (ki 4096))]) (.cond 113 (.s (.ops [q 6 (.mv (.c (.str []))), q 7 (.mv (.c (.bool false))), q 8 (.mv (ki 3))]) .ret) .skip)) (.s (.s (.ops [q 114 (.mv 12), q 115 (.loadN 3 20), qf 116 114 [115]]) (.cond 116 (.s (.ops [q 117 (.faddr 2 20), q 118 (.load1 117), q 6 (.mv 118), q 7 (.mv (.c (.bool true))), q 8 (.mv (ki 0))]) .ret) .skip)) (.s (.ops [q 119 (.mv 14), q 120 (.loadN 3 20), qc 121 42 [120], q0 (.mapset .none 119 121 (.c (.bool true)))]) (.ops [q 122 (.mv 15), q 123 (.loadN 3 20), q 124 (.bslice 3 1 true [.nils, .nils, (.str [])] [(0, (3, 123))] false), q 125 (.app 3 64 122 124), q 15 (.mv 125)])))
def C22v3_95 : ACode := .ops [q 126 (.binI .add 65 (ki 1)), q 65 (.mv 126)]
def C22v3_64 : ACode := .s (.block 3 (.s (.ops [q 67 (.iaddrL 1 63 65), q 68 (.load1 67), q 19 (.mv 68)]) (.s (.draw [] 0 2 O22v3_69q0 [q0 (.store 3 20 94)]) (.s (.s (.ops [q 95 (.faddr 0 20), q 96 (.load1 95), q 97 (.len 96), q 98 (.binI .eql 97 (ki 0)), q 99 (.mv 98), (q 100 (.faddr 1 20)).y 99, (q 101 (.load1 100)).y 99, (q 102 (.len 101)).y 99, (q 103 (.binI .eql 102 (ki 0))).y 99, q 104 (.pick 99 103 (.c (.bool false))), q 105 (.mv 104), (q 106 (.mv 14)).n 105, (q 107 (.loadN 3 20)).n 105, (qc 108 42 [107]).n 105, (q 109 (.lookup .none (.bool false) false 106 108)).n 105, q 110 (.pick 105 (.c (.bool true)) 109)]) C22v3_73) C22v3_76)))) C22v3_95
def C22v3_58 : ACode := .s (.ops [q 66 (.binI .lss 65 64)]) (.s C22v3_61 C22v3_64)
def C22v3_96 : ACode := .ops [q 61 (.mv 17), q 62 (.binI .add 61 (ki 1)), q 17 (.mv 62)]
def C22v3_46 : ACode := .s (.s (.ops [q 57 (.mv 17), q 58 (.mv 15), q 59 (.len 58), q 60 (.binI .lss 57 59)]) (.cond 60 .skip (.exit 0))) (.s (.block 1 (.s (.ops [q 63 (.mv 16), q 64 (.len 63), q 65 (.mv (ki 0))]) (.block 2 (.loop C22v3_58)))) C22v3_96)
def C22v3_97 : ACode := .s (.ops [q 6 (.mv (.c (.str []))), q 7 (.mv (.c (.bool false))), q 8 (.mv (ki 0))]) .ret
def C22v3_41 : ACode := .s (.s (.ops [q 17 (.mv (ki 0))]) (.block 0 (.loop C22v3_46))) C22v3_97
def C22v3_1 : ACode := .s (.ops [q 3 (.boxD 9 0), q 4 (.boxD 9 1), q 5 (.boxD 1 2), q 6 (.mv (.c (.str []))), q 7 (.mv (.c (.bool false))), q 8 (.mv (ki 0))]) (.s (.ops [q 22 (.loadN 9 3), qc 23 32 [22], q 21 (.mv 23), q 24 (.extract 21 0), q 25 (.extract 21 1), q 9 (.alloc [(.int .i64 0), (.int .i64 0), .nils]), q0 (.store 3 9 24), q 10 (.mv 25)]) (.s (.s (.ops [q 26 (.mv 10), q 27 (.binI .neq 26 (ki 0))]) (.cond 27 (.s (.ops [q 28 (.mv 10), q 6 (.mv (.c (.str []))), q 7 (.mv (.c (.bool false))), q 8 (.mv 28)]) .ret) .skip)) (.s (.ops [q 30 (.loadN 9 4), qc 31 32 [30], q 29 (.mv 31), q 32 (.extract 29 0), q 33 (.extract 29 1), q 11 (.alloc [(.int .i64 0), (.int .i64 0), .nils]), q0 (.store 3 11 32), q 10 (.mv 33)]) (.s (.s (.ops [q 34 (.mv 10), q 35 (.binI .neq 34 (ki 0))]) (.cond 35 (.s (.ops [q 36 (.mv 10), q 6 (.mv (.c (.str []))), q 7 (.mv (.c (.bool false))), q 8 (.mv 36)]) .ret) .skip)) (.s (.ops [q 37 (.mkfn 39 [5, 9, 11]), q 12 (.mv 37)]) (.s (.draw [] 0 3 [q 38 (.loadN 3 9), q 39 (.bslice 1 1 false [(.int .i64 0)] [(0, (1, (ki 0)))] false), q 41 (.loadN 3 11), q 42 (.bslice 1 1 false [(.int .i64 0)] [(0, (1, (ki 0)))] false), q 13 (.alloc [.nils, .nils, (.str [])]), qf 40 (.c (.fn 41 [])) [38, 39], qf 43 (.c (.fn 41 [])) [41, 42], q 44 (.build [.nils, .nils, (.str [])] [(0, (1, 40)), (1, (1, 43))])] [q0 (.store 3 13 44)]) (.s (.s (.ops [q 45 (.mv 12), q 46 (.loadN 3 13), qf 47 45 [46]]) (.cond 47 (.s (.ops [q 6 (.mv (.c (.str []))), q 7 (.mv (.c (.bool true))), q 8 (.mv (ki 0))]) .ret) .skip)) (.s (.ops [q 48 (.mkmap .none), q 49 (.loadN 3 13), qc 50 42 [49], q0 (.mapset .none 48 50 (.c (.bool true))), q 51 (.mv 48), q 14 (.mv 51)]) (.s (.ops [q 52 (.loadN 3 13), q 53 (.bslice 3 1 true [.nils, .nils, (.str [])] [(0, (3, 52))] false), q 15 (.mv 53)]) (.s (.ops [q 54 (.loadN 3 9), q 55 (.loadN 3 11), qc 56 43 [54, 55], q 16 (.mv 56)]) C22v3_41))))))))))
def R22v3 : List RA := [(.tmp 6), (.tmp 7), (.tmp 8)]
theorem k22v3 : compF Tryd.prog (muL [3, 4, 5, 40, 43]) 22 = some ⟨127, C22v3_1, R22v3⟩ := by kernel_rfl
noncomputable abbrev X22v3 (r : Str × Bool × Int) : Cx := cD Tryd.prog gE 127 R22v3 (AV.tup [AV.str r.1, AV.bool r.2.1, AV.int .i64 r.2.2]) [3, 4, 5, 40, 43]
inductive St22v3 where
 | p1 (bytes : Sl Int) (k : Int) (p : T45) (q_ : T45) (seen : Mp Str Bool) (l : Sl T80)
 | p2 (bytes : Sl Int) (k : Int) (t63_ : Sl Int) (t64_ : Int) (t65_ : Int) (p : T45) (q_ : T45) (seen : Mp Str Bool) (l : Sl T80)
 | p3 (bytes : Sl Int) (k : Int) (t63_ : Sl Int) (t64_ : Int) (t65_ : Int) (t110_ : Bool) (p : T45) (q_ : T45) (seen : Mp Str Bool) (l : Sl T80) (x_ : T80)
noncomputable def G22v3 : St22v3 → Option (Str × Bool × Int) | .p1 bytes k p q_ seen l => (if (decide (k < ((ls l).length : Int))) = true then (G22v3 (.p2 bytes k bytes ((ls bytes).length : Int) 0 p q_ seen l)) else (some (([] : Str), false, 0))) | .p2 bytes k t63_ t64_ t65_ p q_ seen l => (if (decide (t65_ < t64_)) = true then (ix (ls t63_) t65_ >>= fun v_34 => (ix (ls l) k >>= fun v_39 => (ix (ls l) k >>= fun v_41 => (ix (ls l) k >>= fun v_43 => (if (v_43.text).length + (toBs (ls (some ([v_34] : List Int)))).length ≤ 9223372036854775807 then (F44 p v_39.a v_34 >>= fun r_48 => (F44 q_ v_41.b v_34 >>= fun r_50 => (if (((ls r_48).length : Int) == 0) = true then (if (((ls r_50).length : Int) == 0) = true then (G22v3 (.p2 bytes k t63_ t64_ (IntKind.wrap .i64 (t65_ + 1)) p q_ seen l)) else (F42 ({ a := r_48, b := r_50, text := v_43.text ++ (toBs (ls (some ([v_34] : List Int)))) } : T80) >>= fun r_54 => (G22v3 (.p3 bytes k t63_ t64_ t65_ (Option.getD (Mp.get seen r_54) false) p q_ seen l ({ a := r_48, b := r_50, text := v_43.text ++ (toBs (ls (some ([v_34] : List Int)))) } : T80))))) else (F42 ({ a := r_48, b := r_50, text := v_43.text ++ (toBs (ls (some ([v_34] : List Int)))) } : T80) >>= fun r_56 => (G22v3 (.p3 bytes k t63_ t64_ t65_ (Option.getD (Mp.get seen r_56) false) p q_ seen l ({ a := r_48, b := r_50, text := v_43.text ++ (toBs (ls (some ([v_34] : List Int)))) } : T80))))))) else none))))) else (G22v3 (.p1 bytes (IntKind.wrap .i64 (k + 1)) p q_ seen l))) | .p3 bytes k t63_ t64_ t65_ t110_ p q_ seen l x_ => (if t110_ = true then (G22v3 (.p2 bytes k t63_ t64_ (IntKind.wrap .i64 (t65_ + 1)) p q_ seen l)) else (if (((ls l).length : Int) == 4096) = true then (some (([] : Str), false, 3)) else (F39v3 x_ p q_ >>= fun r_60 => (if r_60.1 = true then (some (x_.text, true, 0)) else (F42 x_ >>= fun r_63 => (some (Mp.put seen r_63 true) >>= fun m_66 => (if ((ls l).length + (ls (some ([x_] : List T80))).length) * 64 ≤ 140737488355328 then (G22v3 (.p2 bytes k t63_ t64_ (IntKind.wrap .i64 (t65_ + 1)) r_60.2.1 r_60.2.2 m_66 (sapp l (ls (some ([x_] : List T80)))))) else none))))))) partial_fixpoint
def M22v3 (x : St22v3) (r : Str × Bool × Int) : Prop := match x with | .p1 bytes k p q_ seen l => ∀ (tm : Fr) (st : Store) (io0 : Nat) (io1 : Nat) (io2 : Nat) (io3 : Nat), Frm tm [(9, .ptr io0 0), (11, .ptr io1 0), (12, .fn 39 [.dptr [.fn 31 []], .ptr io0 0, .ptr io1 0]), (14, .mp io2), (15, ownV 3 v80 l io3), (16, slV 1 (AV.int .u8) bytes), (17, AV.int .i64 k)] → SH st [pt io0 (.cells (c45 p)), pt io1 (.cells (c45 q_)), pt io2 (.map none (mS AV.bool seen) seen.n), ownA io3 l] → W (X22v3 r) [.lp C22v3_46, .blk 0, .code C22v3_97] tm st | .p2 bytes k t63_ t64_ t65_ p q_ seen l => ∀ (tm : Fr) (st : Store) (io0 : Nat) (io1 : Nat) (io2 : Nat) (io3 : Nat), Frm tm [(9, .ptr io0 0), (11, .ptr io1 0), (12, .fn 39 [.dptr [.fn 31 []], .ptr io0 0, .ptr io1 0]), (14, .mp io2), (15, ownV 3 v80 l io3), (16, slV 1 (AV.int .u8) bytes), (17, AV.int .i64 k), (63, slV 1 (AV.int .u8) t63_), (64, AV.int .i64 t64_), (65, AV.int .i64 t65_)] → SH st [pt io0 (.cells (c45 p)), pt io1 (.cells (c45 q_)), pt io2 (.map none (mS AV.bool seen) seen.n), ownA io3 l] → W (X22v3 r) [.lp C22v3_58, .blk 2, .blk 1, .code C22v3_96, .lp C22v3_46, .blk 0, .code C22v3_97] tm st | .p3 bytes k t63_ t64_ t65_ t110_ p q_ seen l x_ => ∀ (tm : Fr) (st : Store) (io0 : Nat) (io1 : Nat) (io2 : Nat) (io3 : Nat) (io4 : Nat), Frm tm [(9, .ptr io0 0), (11, .ptr io1 0), (12, .fn 39 [.dptr [.fn 31 []], .ptr io0 0, .ptr io1 0]), (14, .mp io2), (15, ownV 3 v80 l io3), (16, slV 1 (AV.int .u8) bytes), (17, AV.int .i64 k), (20, .ptr io4 0), (63, slV 1 (AV.int .u8) t63_), (64, AV.int .i64 t64_), (65, AV.int .i64 t65_), (110, AV.bool t110_)] → SH st [pt io0 (.cells (c45 p)), pt io1 (.cells (c45 q_)), pt io2 (.map none (mS AV.bool seen) seen.n), ownA io3 l, pt io4 (.cells (c80 x_))] → W (X22v3 r) [.code C22v3_73, .code C22v3_76, .blk 3, .code C22v3_95, .lp C22v3_58, .blk 2, .blk 1, .code C22v3_96, .lp C22v3_46, .blk 0, .code C22v3_97] tm st
theorem w22v3 : ∀ (x : St22v3) (r : Str × Bool × Int), G22v3 x = some r → M22v3 x r := by
 refine G22v3.partial_correctness (M22v3) ?_
 intro g ih x r hF
 cases x with
 | p1 bytes k p q_ seen l =>
  dsimp only at hF
  intro tm st io0 io1 io2 io3 hf hs
  refine en hf ?_
  refine lp ?_
  refine rn 2 rfl ?_
  refine W.o (e_len (rd_W (o := l) (id := io3) rfl)) ?_
  refine rn 1 rfl ?_
  refine ci hF rfl (fun c_32 hF => ?_) (fun c_32 hF => ?_)
  · refine rn 1 rfl ?_
    refine W.o (e_len (rd_V rfl)) ?_
    refine rn 1 rfl ?_
    exact ih (.p2 bytes k bytes ((ls bytes).length : Int) 0 p q_ seen l) _ hF _ _ io0 io1 io2 io3 ⟨rfl, rfl, rfl, rfl, rfl, rfl, rfl, rfl, rfl, rfl, trivial⟩ hs
  · refine rn 3 rfl ?_
    cases hF
    exact rD (rlt (rlt (rlt rl0))) rfl
 | p2 bytes k t63_ t64_ t65_ p q_ seen l =>
  dsimp only at hF
  intro tm st io0 io1 io2 io3 hf hs
  refine en hf ?_
  refine lp ?_
  refine rn 1 rfl ?_
  refine ci hF rfl (fun c_33 hF => ?_) (fun c_33 hF => ?_)
  · obtain ⟨v_34, g_35, hF⟩ := bind_some hF
    refine rn 0 rfl ?_
    refine W.o (e_iaddrL (rd_V rfl) rfl g_35) ?_
    refine W.o (l1D rfl rfl) ?_
    refine rn 1 rfl ?_
    refine drn hs fun s_36 st h0 hs => ?_
    refine de rfl (lN (s := c45 p) rfl (h0.g 0 rfl) rfl rfl) ?_
    obtain ⟨v_39, g_40, hF⟩ := bind_some hF
    refine dn 2 rfl ?_
    refine de rfl (e_iaddrL (rd_W (o := l) (id := io3) rfl) rfl g_40) ?_
    refine de rfl (e_faddrD rfl) ?_
    refine de rfl (l1D rfl (by first | rfl | (rw [slV_cells]; rfl))) ?_
    refine dn 1 rfl ?_
    refine de rfl (lN (s := c45 q_) rfl (h0.g 1 rfl) rfl rfl) ?_
    obtain ⟨v_41, g_42, hF⟩ := bind_some hF
    refine dn 2 rfl ?_
    refine de rfl (e_iaddrL (rd_W (o := l) (id := io3) rfl) rfl g_42) ?_
    refine de rfl (e_faddrD rfl) ?_
    refine de rfl (l1D rfl (by first | rfl | (rw [slV_cells]; rfl))) ?_
    obtain ⟨v_43, g_44, hF⟩ := bind_some hF
    refine dn 3 rfl ?_
    refine de rfl (e_iaddrL (rd_W (o := l) (id := io3) rfl) rfl g_44) ?_
    refine de rfl (e_faddrD rfl) ?_
    refine de rfl (l1D rfl rfl) ?_
    refine dn 1 rfl ?_
    refine dbs (f := AV.int .u8) ([v_34] : List Int) hs 0 rfl rfl rfl rfl rfl rfl fun st hs => ?_
    refine de rfl (e_b2s (rd_W (o := (some ([v_34] : List Int))) (id := (List.length s_36 + 0)) rfl)) ?_
    obtain ⟨g_46, hF⟩ := grd_some hF
    refine de rfl (e_str rfl rfl (op_cat _ _ g_46)) ?_
    refine dal hs 1 (cs := c80 ({ a := none, b := none, text := [] } : T80)) rfl rfl rfl fun st hs => ?_
    obtain ⟨r_48, g_49, hF⟩ := bind_some hF
    refine ddf (d44 p v_39.a v_34 _ g_49) rfl ?_
    obtain ⟨r_50, g_51, hF⟩ := bind_some hF
    refine ddf (d44 q_ v_41.b v_34 _ g_51) rfl ?_
    refine de rfl (e_build (z := [.nils, .nils, (.str [])]) (cs := c80 ({ a := r_48, b := r_50, text := v_43.text ++ (toBs (ls (some ([v_34] : List Int)))) } : T80)) (pk_cons (cs := cSl 1 (AV.int .i64) r_48) (v := slV 1 (AV.int .i64) r_48) rfl slV_cells (cSl_len _) (by decide) (pk_cons (cs := cSl 1 (AV.int .i64) r_50) (v := slV 1 (AV.int .i64) r_50) rfl slV_cells (cSl_len _) (by decide) (pk_cons (cs := cS (v_43.text ++ (toBs (ls (some ([v_34] : List Int)))))) rfl rfl (cS_len _) (by decide) pk_nil))) (show fillA (c80 ({ a := none, b := none, text := [] } : T80)) _ = _ from (fl_cons (lrx 0 1 (cSl 1 (AV.int .i64) r_48) rfl rfl) ((cSl_len _).trans (cSl_len _).symm) (fl_cons (lrx 1 1 (cSl 1 (AV.int .i64) r_50) rfl rfl) ((cSl_len _).trans (cSl_len _).symm) (fl_cons (lrx 2 1 (cS (v_43.text ++ (toBs (ls (some ([v_34] : List Int)))))) rfl rfl) ((cS_len _).trans (cS_len _).symm) (fl_nil _)))))) ?_
    refine dz ?_
    refine sl hs 1 rfl rfl (LR.whole _ _) (c80_len _) rfl (c80_len _) (c80_one _) rfl fun st hs => ?_
    refine rn 0 rfl ?_
    refine W.o (e_faddr rfl (hs.g 1 rfl)) ?_
    refine W.o (l1 rfl (hs.g 1 rfl) rfl) ?_
    refine W.o (e_len (rd_V rfl)) ?_
    refine rn 2 rfl ?_
    refine bi hF (fun c_52 hF => ?_) (fun c_52 hF => ?_)
    · refine wfx 99 rfl c_52 ?_
      refine W.on rfl rfl ?_
      refine W.o (e_faddr rfl (hs.g 1 rfl)) ?_
      refine W.on rfl rfl ?_
      refine W.o (l1 rfl (hs.g 1 rfl) rfl) ?_
      refine W.on rfl rfl ?_
      refine W.o (e_len (rd_V rfl)) ?_
      refine rn 3 rfl ?_
      refine bi hF (fun c_53 hF => ?_) (fun c_53 hF => ?_)
      · refine wfx 105 rfl c_53 ?_
        refine rn 5 rfl ?_
        refine ct rfl rfl ?_
        refine rn 2 rfl ?_
        exact ih (.p2 bytes k t63_ t64_ (IntKind.wrap .i64 (t65_ + 1)) p q_ seen l) _ hF _ _ io0 io1 io2 io3 ⟨rfl, rfl, rfl, rfl, rfl, rfl, rfl, rfl, rfl, rfl, trivial⟩ (hs.p 6 [2, 2, 2, 2] rfl)
      · refine wfx 105 rfl c_53 ?_
        refine rn 1 rfl ?_
        refine W.on rfl rfl ?_
        refine W.o (lN (s := c80 ({ a := r_48, b := r_50, text := v_43.text ++ (toBs (ls (some ([v_34] : List Int)))) } : T80)) rfl (hs.g 1 rfl) rfl rfl) ?_
        obtain ⟨r_54, g_55, hF⟩ := bind_some hF
        refine W.on rfl rfl ?_
        refine df (d42 ({ a := r_48, b := r_50, text := v_43.text ++ (toBs (ls (some ([v_34] : List Int)))) } : T80) _ g_55) rfl ?_
        refine W.on rfl rfl ?_
        refine W.o (e_lookupS1 (f := AV.bool) (z := false) rfl (hs.g 4 rfl) rfl rfl) ?_
        refine rj 1 1 rfl ?_
        exact ih (.p3 bytes k t63_ t64_ t65_ (Option.getD (Mp.get seen r_54) false) p q_ seen l ({ a := r_48, b := r_50, text := v_43.text ++ (toBs (ls (some ([v_34] : List Int)))) } : T80)) _ hF _ _ io0 io1 io2 io3 (List.length s_36 + 1) ⟨rfl, rfl, rfl, rfl, rfl, rfl, rfl, rfl, rfl, rfl, rfl, rfl, trivial⟩ (hs.p 6 [2, 2, 2, 2, 1] rfl)
    · refine wfx 99 rfl c_52 ?_
      refine rn 7 rfl ?_
      refine W.on rfl rfl ?_
      refine W.o (lN (s := c80 ({ a := r_48, b := r_50, text := v_43.text ++ (toBs (ls (some ([v_34] : List Int)))) } : T80)) rfl (hs.g 1 rfl) rfl rfl) ?_
      obtain ⟨r_56, g_57, hF⟩ := bind_some hF
      refine W.on rfl rfl ?_
      refine df (d42 ({ a := r_48, b := r_50, text := v_43.text ++ (toBs (ls (some ([v_34] : List Int)))) } : T80) _ g_57) rfl ?_
      refine W.on rfl rfl ?_
      refine W.o (e_lookupS1 (f := AV.bool) (z := false) rfl (hs.g 4 rfl) rfl rfl) ?_
      refine rj 1 1 rfl ?_
      exact ih (.p3 bytes k t63_ t64_ t65_ (Option.getD (Mp.get seen r_56) false) p q_ seen l ({ a := r_48, b := r_50, text := v_43.text ++ (toBs (ls (some ([v_34] : List Int)))) } : T80)) _ hF _ _ io0 io1 io2 io3 (List.length s_36 + 1) ⟨rfl, rfl, rfl, rfl, rfl, rfl, rfl, rfl, rfl, rfl, rfl, rfl, trivial⟩ (hs.p 6 [2, 2, 2, 2, 1] rfl)
  · refine rn 3 rfl ?_
    exact ih (.p1 bytes (IntKind.wrap .i64 (k + 1)) p q_ seen l) _ hF _ _ io0 io1 io2 io3 ⟨rfl, rfl, rfl, rfl, rfl, rfl, rfl, trivial⟩ hs
 | p3 bytes k t63_ t64_ t65_ t110_ p q_ seen l x_ =>
  dsimp only at hF
  intro tm st io0 io1 io2 io3 io4 hf hs
  refine en hf ?_
  refine ci hF rfl (fun c_58 hF => ?_) (fun c_58 hF => ?_)
  · refine rn 2 rfl ?_
    exact ih (.p2 bytes k t63_ t64_ (IntKind.wrap .i64 (t65_ + 1)) p q_ seen l) _ hF _ _ io0 io1 io2 io3 ⟨rfl, rfl, rfl, rfl, rfl, rfl, rfl, rfl, rfl, rfl, trivial⟩ (hs.p 5 [0, 0, 0, 0] rfl)
  · refine rn 1 rfl ?_
    refine W.o (e_len (rd_W (o := l) (id := io3) rfl)) ?_
    refine rn 1 rfl ?_
    refine ci hF rfl (fun c_59 hF => ?_) (fun c_59 hF => ?_)
    · refine rn 3 rfl ?_
      cases hF
      exact rD (rlt (rlt (rlt rl0))) rfl
    · refine rn 1 rfl ?_
      refine W.o (lN (s := c80 x_) rfl (hs.g 4 rfl) rfl rfl) ?_
      obtain ⟨r_60, g_61, hF⟩ := bind_some hF
      refine cv rfl (by kernel_rfl) (ale rfl) (d39v3 x_ p q_ _ g_61 _ _ io0 io1 (fun st hs => ?_) _ hs)
      refine rn 0 rfl ?_
      refine ci hF rfl (fun c_62 hF => ?_) (fun c_62 hF => ?_)
      · refine rn 0 rfl ?_
        refine W.o (e_faddr rfl (hs.g 4 rfl)) ?_
        refine W.o (l1 rfl (hs.g 4 rfl) rfl) ?_
        refine rn 3 rfl ?_
        cases hF
        exact rD (rlt (rlt (rlt rl0))) rfl
      · refine rn 1 rfl ?_
        refine W.o (lN (s := c80 x_) rfl (hs.g 4 rfl) rfl rfl) ?_
        obtain ⟨r_63, g_64, hF⟩ := bind_some hF
        refine df (d42 x_ _ g_64) rfl ?_
        obtain ⟨m_66, e_67, hF⟩ := let_some hF
        refine msS (f := AV.bool) true hs 2 rfl rfl rfl rfl rfl fun st hs => ?_
        rw [e_67] at hs
        refine rn 1 rfl ?_
        refine W.o (lN (s := c80 x_) rfl (hs.g 4 rfl) rfl rfl) ?_
        refine bs (f := v80) ([x_] : List T80) hs rfl rfl (by first | (simp [fillA, rep0, valP, c80_one]; done) | (show List.all (fillA (rep0 _ _) [(0, c80 x_)]) AV.one = true; simp [fillA, rep0, c80_one, c80_len])) rfl fun st b_68 hs => ?_
        obtain ⟨g_69, hF⟩ := grd_some hF
        refine ap (ys := ls (some ([x_] : List T80))) hs 4 rfl rfl (ae_rd (rd_W (o := (some ([x_] : List T80))) (id := b_68) rfl)) g_69 (fun _ => rfl) fun st b_70 hs => ?_
        refine rn 3 rfl ?_
        exact ih (.p2 bytes k t63_ t64_ (IntKind.wrap .i64 (t65_ + 1)) r_60.2.1 r_60.2.2 m_66 (sapp l (ls (some ([x_] : List T80))))) _ hF _ _ io0 io1 io2 b_70 ⟨rfl, rfl, rfl, rfl, rfl, rfl, rfl, rfl, rfl, rfl, trivial⟩ (hs.p 6 [1, 1, 1, 1] rfl)
noncomputable def F22v3 (m : T27) (n : T27) : Option (Str × Bool × Int) := (F32 m >>= fun r_1 => (if (r_1.2 != 0) = true then (some (([] : Str), false, r_1.2)) else (F32 n >>= fun r_5 => (if (r_5.2 != 0) = true then (some (([] : Str), false, r_5.2)) else (F41 r_1.1 (some ([0] : List Int)) >>= fun r_16 => (F41 r_5.1 (some ([0] : List Int)) >>= fun r_18 => (F39v3 ({ a := r_16, b := r_18, text := [] } : T80) r_1.1 r_5.1 >>= fun r_20 => (if r_20.1 = true then (some (([] : Str), true, 0)) else (F42 ({ a := r_16, b := r_18, text := [] } : T80) >>= fun r_24 => (some (Mp.put (Mp.empty : Mp Str Bool) r_24 true) >>= fun m_27 => (F43 r_20.2.1 r_20.2.2 >>= fun r_30 => (G22v3 (.p1 r_30 0 r_20.2.1 r_20.2.2 m_27 (some ([({ a := r_16, b := r_18, text := [] } : T80)] : List T80)))))))))))))))
theorem d22v3 (m : T27) (n : T27) (r : Str × Bool × Int) (hF : F22v3 m n = some r) : DFun Tryd.prog gE 22 [v27 m, v27 n, .fn 31 []] (AV.tup [AV.str r.1, AV.bool r.2.1, AV.int .i64 r.2.2]) := by
 unfold F22v3 at hF
 refine bD k22v3 rfl ?_
 have hs : SH [] [] := SH.nil
 generalize ([] : Store) = st at hs ⊢
 refine rn 0 rfl ?_
 refine W.o (e_boxD (cs := c27 m) rfl (by rw [c27_len]; rfl) (c27_one _)) ?_
 refine W.o (e_boxD (cs := c27 n) rfl (by rw [c27_len]; rfl) (c27_one _)) ?_
 refine W.o (e_boxD (cs := [.fn 31 []]) rfl rfl rfl) ?_
 refine rn 3 rfl ?_
 refine W.o (e_loadND rfl (DP.refl _) (c27_len _)) ?_
 obtain ⟨r_1, g_2, hF⟩ := bind_some hF
 refine df (d32 m _ g_2) rfl ?_
 refine rn 3 rfl ?_
 refine al hs (cs := c45 ({ Groups := 0, Slots := 0, Code := none } : T45)) rfl fun st b_3 hs => ?_
 refine sl hs 0 rfl rfl (LR.whole _ _) (c45_len _) rfl (c45_len _) (c45_one _) rfl fun st hs => ?_
 refine rn 3 rfl ?_
 refine ci hF rfl (fun c_4 hF => ?_) (fun c_4 hF => ?_)
 · refine rn 4 rfl ?_
   cases hF
   exact rD (rlt (rlt (rlt rl0))) rfl
 · refine rn 0 rfl ?_
   refine W.o (e_loadND rfl (DP.refl _) (c27_len _)) ?_
   obtain ⟨r_5, g_6, hF⟩ := bind_some hF
   refine df (d32 n _ g_6) rfl ?_
   refine rn 3 rfl ?_
   refine al hs (cs := c45 ({ Groups := 0, Slots := 0, Code := none } : T45)) rfl fun st b_7 hs => ?_
   refine sl hs 0 rfl rfl (LR.whole _ _) (c45_len _) rfl (c45_len _) (c45_one _) rfl fun st hs => ?_
   refine rn 3 rfl ?_
   refine ci hF rfl (fun c_8 hF => ?_) (fun c_8 hF => ?_)
   · refine rn 4 rfl ?_
     cases hF
     exact rD (rlt (rlt (rlt rl0))) rfl
   · refine rn 2 rfl ?_
     refine drn hs fun s_9 st h0 hs => ?_
     refine de rfl (lN (s := c45 r_1.1) rfl (h0.g 1 rfl) rfl rfl) ?_
     refine dbs (f := AV.int .i64) ([0] : List Int) hs 0 rfl rfl rfl rfl rfl rfl fun st hs => ?_
     refine de rfl (lN (s := c45 r_5.1) rfl (h0.g 0 rfl) rfl rfl) ?_
     refine dbs (f := AV.int .i64) ([0] : List Int) hs 1 rfl rfl rfl rfl rfl rfl fun st hs => ?_
     refine dal hs 2 (cs := c80 ({ a := none, b := none, text := [] } : T80)) rfl rfl rfl fun st hs => ?_
     obtain ⟨r_16, g_17, hF⟩ := bind_some hF
     refine dkl 39 (A := [v45 r_1.1]) (B := []) (es := 1) (g := AV.int .i64) (m := ([0] : List Int)) hs 0 (by kernel_rfl) (d41 r_1.1 (some ([0] : List Int)) _ g_17) (.tail _ (.head _)) rfl rfl (Nat.le_add_right _ _) rfl fun st hs => ?_
     obtain ⟨r_18, g_19, hF⟩ := bind_some hF
     refine dkl 42 (A := [v45 r_5.1]) (B := []) (es := 1) (g := AV.int .i64) (m := ([0] : List Int)) hs 0 (by kernel_rfl) (d41 r_5.1 (some ([0] : List Int)) _ g_19) (.tail _ (.head _)) rfl rfl (Nat.le_add_right _ _) rfl fun st hs => ?_
     refine de rfl (e_build (z := [.nils, .nils, (.str [])]) (cs := c80 ({ a := r_16, b := r_18, text := [] } : T80)) (pk_cons (cs := cSl 1 (AV.int .i64) r_16) (v := slV 1 (AV.int .i64) r_16) rfl slV_cells (cSl_len _) (by decide) (pk_cons (cs := cSl 1 (AV.int .i64) r_18) (v := slV 1 (AV.int .i64) r_18) rfl slV_cells (cSl_len _) (by decide) pk_nil)) (show fillA (c80 ({ a := none, b := none, text := [] } : T80)) _ = _ from (fl_cons (lrx 0 1 (cSl 1 (AV.int .i64) r_16) rfl rfl) ((cSl_len _).trans (cSl_len _).symm) (fl_cons (lrx 1 1 (cSl 1 (AV.int .i64) r_18) rfl rfl) ((cSl_len _).trans (cSl_len _).symm) (fl_nil _))))) ?_
     refine dz ?_
     refine sl hs 0 rfl rfl (LR.whole _ _) (c80_len _) rfl (c80_len _) (c80_one _) rfl fun st hs => ?_
     refine rn 1 rfl ?_
     refine W.o (lN (s := c80 ({ a := r_16, b := r_18, text := [] } : T80)) rfl (hs.g 0 rfl) rfl rfl) ?_
     obtain ⟨r_20, g_21, hF⟩ := bind_some hF
     refine cv rfl (by kernel_rfl) (ale rfl) (d39v3 ({ a := r_16, b := r_18, text := [] } : T80) r_1.1 r_5.1 _ g_21 _ _ b_3 b_7 (fun st hs => ?_) _ (hs.p 3 [2, 1, 0] rfl))
     refine rn 0 rfl ?_
     refine ci hF rfl (fun c_22 hF => ?_) (fun c_22 hF => ?_)
     · refine rn 3 rfl ?_
       cases hF
       exact rD (rlt (rlt (rlt rl0))) rfl
     · refine rn 0 rfl ?_
       refine mkS AV.bool hs fun st b_23 hs => ?_
       refine W.o (lN (s := c80 ({ a := r_16, b := r_18, text := [] } : T80)) rfl (hs.g 3 rfl) rfl rfl) ?_
       obtain ⟨r_24, g_25, hF⟩ := bind_some hF
       refine df (d42 ({ a := r_16, b := r_18, text := [] } : T80) _ g_25) rfl ?_
       obtain ⟨m_27, e_28, hF⟩ := let_some hF
       refine msS (f := AV.bool) true hs 0 rfl rfl rfl rfl rfl fun st hs => ?_
       rw [e_28] at hs
       refine rn 2 rfl ?_
       refine W.o (lN (s := c80 ({ a := r_16, b := r_18, text := [] } : T80)) rfl (hs.g 3 rfl) rfl rfl) ?_
       refine bs (f := v80) ([({ a := r_16, b := r_18, text := [] } : T80)] : List T80) hs rfl rfl (by first | (simp [fillA, rep0, valP, c80_one]; done) | (show List.all (fillA (rep0 _ _) [(0, c80 ({ a := r_16, b := r_18, text := [] } : T80))]) AV.one = true; simp [fillA, rep0, c80_one, c80_len])) rfl fun st b_29 hs => ?_
       refine rn 1 rfl ?_
       refine W.o (lN (s := c45 r_20.2.1) rfl (hs.g 2 rfl) rfl rfl) ?_
       refine W.o (lN (s := c45 r_20.2.2) rfl (hs.g 3 rfl) rfl rfl) ?_
       obtain ⟨r_30, g_31, hF⟩ := bind_some hF
       refine df (d43 r_20.2.1 r_20.2.2 _ g_31) rfl ?_
       refine rn 2 rfl ?_
       exact w22v3 (.p1 r_30 0 r_20.2.1 r_20.2.2 m_27 (some ([({ a := r_16, b := r_18, text := [] } : T80)] : List T80))) _ hF _ _ b_3 b_7 b_23 b_29 ⟨rfl, rfl, rfl, rfl, rfl, rfl, rfl, trivial⟩ (hs.p 5 [2, 2, 1, 0] rfl)
end Go.Proofs.YtcidnoghoifmmaaDoor
end
section
/-
  Functions of the program's as plain functions.
-/

set_option linter.unusedVariables false
set_option linter.unusedSimpArgs false
set_option maxRecDepth 4000
set_option maxHeartbeats 4000000
namespace Go.Proofs.YtcidnoghoifmmaaDoor
open Go AW
attribute [local irreducible] W WD SH XS XLoop DFun XCall XYield
def C16_1 : ACode := .s (.ops [q 2 (.boxD 9 0), q 3 (.boxD 9 1), q 4 (.mv (.c (.str []))), q 5 (.mv (.c (.bool false))), q 6 (.mv (ki 0))]) (.s (.ops [q 7 (.loadN 9 2), q 8 (.loadN 9 3), qc 9 22 [7, 8, (.c (.fn 31 []))], q 10 (.extract 9 0), q 11 (.extract 9 1), q 12 (.extract 9 2), q 4 (.mv 10), q 5 (.mv 11), q 6 (.mv 12)]) .ret)
def R16 : List RA := [(.tmp 4), (.tmp 5), (.tmp 6)]
theorem k16 : compF Tryd.prog (muL [2, 3]) 16 = some ⟨13, C16_1, R16⟩ := by kernel_rfl
noncomputable abbrev X16 (r : Str × Bool × Int) : Cx := cD Tryd.prog gE 13 R16 (AV.tup [AV.str r.1, AV.bool r.2.1, AV.int .i64 r.2.2]) [2, 3]
noncomputable def F16 (a : T27) (b : T27) : Option (Str × Bool × Int) := (F22v3 a b >>= fun r_1 => (some (r_1.1, r_1.2.1, r_1.2.2)))
theorem d16 (a : T27) (b : T27) (r : Str × Bool × Int) (hF : F16 a b = some r) : DFun Tryd.prog gE 16 [v27 a, v27 b] (AV.tup [AV.str r.1, AV.bool r.2.1, AV.int .i64 r.2.2]) := by
 unfold F16 at hF
 refine bD k16 rfl ?_
 have hs : SH [] [] := SH.nil
 generalize ([] : Store) = st at hs ⊢
 refine rn 0 rfl ?_
 refine W.o (e_boxD (cs := c27 a) rfl (by rw [c27_len]; rfl) (c27_one _)) ?_
 refine W.o (e_boxD (cs := c27 b) rfl (by rw [c27_len]; rfl) (c27_one _)) ?_
 refine rn 3 rfl ?_
 refine W.o (e_loadND rfl (DP.refl _) (c27_len _)) ?_
 refine W.o (e_loadND rfl (DP.refl _) (c27_len _)) ?_
 obtain ⟨r_1, g_2, hF⟩ := bind_some hF
 refine df (d22v3 a b _ g_2) rfl ?_
 refine rn 6 rfl ?_
 cases hF
 exact rD (rlt (rlt (rlt rl0))) rfl
def C17_1 : ACode := .s (.ops [q 1 (.boxD 9 0), q 2 (.mv (.c (.str []))), q 3 (.mv (.c (.bool false))), q 4 (.mv (ki 0))]) (.s (.ops [q 5 (.loadN 9 1), q 6 (.loadN 9 1), qc 7 16 [5, 6], q 8 (.extract 7 0), q 9 (.extract 7 1), q 10 (.extract 7 2), q 2 (.mv 8), q 3 (.mv 9), q 4 (.mv 10)]) .ret)
def R17 : List RA := [(.tmp 2), (.tmp 3), (.tmp 4)]
theorem k17 : compF Tryd.prog (muL [1]) 17 = some ⟨11, C17_1, R17⟩ := by kernel_rfl
noncomputable abbrev X17 (r : Str × Bool × Int) : Cx := cD Tryd.prog gE 11 R17 (AV.tup [AV.str r.1, AV.bool r.2.1, AV.int .i64 r.2.2]) [1]
noncomputable def F17 (n : T27) : Option (Str × Bool × Int) := (F16 n n >>= fun r_1 => (some (r_1.1, r_1.2.1, r_1.2.2)))
theorem d17 (n : T27) (r : Str × Bool × Int) (hF : F17 n = some r) : DFun Tryd.prog gE 17 [v27 n] (AV.tup [AV.str r.1, AV.bool r.2.1, AV.int .i64 r.2.2]) := by
 unfold F17 at hF
 refine bD k17 rfl ?_
 have hs : SH [] [] := SH.nil
 generalize ([] : Store) = st at hs ⊢
 refine rn 0 rfl ?_
 refine W.o (e_boxD (cs := c27 n) rfl (by rw [c27_len]; rfl) (c27_one _)) ?_
 refine rn 3 rfl ?_
 refine W.o (e_loadND rfl (DP.refl _) (c27_len _)) ?_
 refine W.o (e_loadND rfl (DP.refl _) (c27_len _)) ?_
 obtain ⟨r_1, g_2, hF⟩ := bind_some hF
 refine df (d16 n n _ g_2) rfl ?_
 refine rn 6 rfl ?_
 cases hF
 exact rD (rlt (rlt (rlt rl0))) rfl
def C21_1 : ACode := .s (.ops [q 2 (.alloc [(.int .u8 0), (.int .u64 0), (.int .u64 0), (.int .u64 0), (.int .u64 0), (.int .i64 0), (.int .i64 0), (.int .i64 0), .nils])]) (.s (.ops [q 4 (.build [(.int .u64 0), (.int .u64 0), (.int .u64 0), (.int .u64 0)] []), q 3 (.alloc [(.int .u64 0), (.int .u64 0), (.int .u64 0), (.int .u64 0)]), q0 (.store 4 3 4)]) (.s (.ops [q 5 (.mv 0), q 6 (.binI .quo 5 (ku 64)), q 7 (.mv 0), q 8 (.binI .rem 7 (ku 64)), q 9 (.binI .shl (.c (.int .u64 1)) 8), q 10 (.iaddrA 4 1 3 6), q0 (.store 1 10 9)]) (.s (.ops [q 11 (.loadN 4 3), q 12 (.build [(.int .u8 0), (.int .u64 0), (.int .u64 0), (.int .u64 0), (.int .u64 0), (.int .i64 0), (.int .i64 0), (.int .i64 0), .nils] [(0, (1, (ku 2))), (1, (4, 11))]), q0 (.store 9 2 12)]) .ret)))
def R21 : List RA := [(.cellN 2 9)]
theorem k21 : compF Tryd.prog (muL []) 21 = some ⟨13, C21_1, R21⟩ := by kernel_rfl
noncomputable abbrev X21 (r : T27) : Cx := cD Tryd.prog gE 13 R21 (v27 r)
noncomputable def F21 (c : Int) : Option T27 := (if 0 ≤ (Int.tmod c 64) then (if (0 : Int) ≤ (IntKind.wrap .u8 (Int.tdiv c 64)) ∧ (IntKind.wrap .u8 (Int.tdiv c 64)) < (4 : Int) then (some ({ Kind := 2, Set := (aset (Arr.rep 4 (0 : Int)) (IntKind.wrap .u8 (Int.tdiv c 64)) (shlI .u64 1 (Int.tmod c 64))), Min := 0, Max := 0, Group := 0, Kids := none } : T27)) else none) else none)
theorem d21 (c : Int) (r : T27) (hF : F21 c = some r) : DFun Tryd.prog gE 21 [AV.int .u8 c] (v27 r) := by
 unfold F21 at hF
 refine bD k21 rfl ?_
 have hs : SH [] [] := SH.nil
 generalize ([] : Store) = st at hs ⊢
 refine rn 0 rfl ?_
 refine al hs (cs := c27 ({ Kind := 0, Set := (Arr.rep 4 (0 : Int)), Min := 0, Max := 0, Group := 0, Kids := none } : T27)) rfl fun st b_1 hs => ?_
 refine rn 0 rfl ?_
 refine W.o (e_build (z := [(.int .u64 0), (.int .u64 0), (.int .u64 0), (.int .u64 0)]) (cs := c24 (Arr.rep 4 (0 : Int))) pk_nil (show fillA (c24 (Arr.rep 4 (0 : Int))) _ = _ from (fl_nil _))) ?_
 refine al hs (cs := c24 (Arr.rep 4 (0 : Int))) rfl fun st b_2 hs => ?_
 refine sr hs 0 rfl rfl rfl (cs' := c24 (Arr.rep 4 (0 : Int))) rfl rfl fun st hs => ?_
 refine rn 1 rfl ?_
 refine W.o (e_bin rfl rfl (op_quo _ _ _ (by decide))) ?_
 refine rn 1 rfl ?_
 refine W.o (e_bin rfl rfl (op_rem _ _ _ (by decide))) ?_
 obtain ⟨g_3, hF⟩ := grd_some hF
 refine W.o (e_bin rfl rfl (op_shl _ _ _ _ g_3)) ?_
 obtain ⟨g_4, hF⟩ := grd_some hF
 refine W.o (e_iaddrA rfl (hs.g 0 rfl) rfl g_4) ?_
 obtain ⟨y_5, g_6⟩ := ix_in (Arr.rep 4 (0 : Int)) g_4 rfl
 refine sl hs 0 rfl rfl (LR.comp (LR.whole _ _) (lrF_set (cI_len .u64) g_6 (shlI .u64 1 (Int.tmod c 64)))) ((cI_len .u64) _) rfl ((cI_len .u64) _) ((cI_one .u64) _) rfl fun st hs => ?_
 refine rn 0 rfl ?_
 refine W.o (lN (s := c24 (aset (Arr.rep 4 (0 : Int)) (IntKind.wrap .u8 (Int.tdiv c 64)) (shlI .u64 1 (Int.tmod c 64)))) rfl (hs.g 0 rfl) rfl rfl) ?_
 refine W.o (e_build (z := [(.int .u8 0), (.int .u64 0), (.int .u64 0), (.int .u64 0), (.int .u64 0), (.int .i64 0), (.int .i64 0), (.int .i64 0), .nils]) (cs := c27 ({ Kind := 2, Set := (aset (Arr.rep 4 (0 : Int)) (IntKind.wrap .u8 (Int.tdiv c 64)) (shlI .u64 1 (Int.tmod c 64))), Min := 0, Max := 0, Group := 0, Kids := none } : T27)) (pk_cons (cs := cI .u8 2) rfl rfl ((cI_len .u8) _) (by decide) (pk_cons (cs := c24 (aset (Arr.rep 4 (0 : Int)) (IntKind.wrap .u8 (Int.tdiv c 64)) (shlI .u64 1 (Int.tmod c 64)))) rfl rfl (c24_len _) (by decide) pk_nil)) (show fillA (c27 ({ Kind := 0, Set := (Arr.rep 4 (0 : Int)), Min := 0, Max := 0, Group := 0, Kids := none } : T27)) _ = _ from (fl_cons (lr27_Kind ({ Kind := 0, Set := (Arr.rep 4 (0 : Int)), Min := 0, Max := 0, Group := 0, Kids := none } : T27) 2) (((cI_len .u8) _).trans ((cI_len .u8) _).symm) (fl_cons (lr27_Set ({ Kind := 2, Set := (Arr.rep 4 (0 : Int)), Min := 0, Max := 0, Group := 0, Kids := none } : T27) (aset (Arr.rep 4 (0 : Int)) (IntKind.wrap .u8 (Int.tdiv c 64)) (shlI .u64 1 (Int.tmod c 64)))) ((c24_len _).trans (c24_len _).symm) (fl_nil _))))) ?_
 refine sl hs 1 rfl rfl (LR.whole _ _) (c27_len _) rfl (c27_len _) (c27_one _) rfl fun st hs => ?_
 refine rn 0 rfl ?_
 cases hF
 exact rD (rl_cellN rfl (hs.g 1 rfl) (LR.whole _ _) (c27_len _) rl0) rfl
def O7_20o1 : List AOp := q 74 (.mv 73) :: (q 75 (.mv 12)).y 74 :: (q 76 (.binS .eql 75 (.c (.str [97])))).y 74 :: q 77 (.pick 74 76 (.c (.bool false))) :: q 78 (.mv 77) :: (q 79 (.mv 14)).y 78 :: (q 80 (.binI .eql 79 (ki 0))).y 78 :: q 81 (.pick 78 80 (.c (.bool false))) :: q 0 (.mv 81) :: []
def O7_20o0 : List AOp := q 50 (.mv 4) :: q 51 (.un .not 50) :: q 52 (.mv 51) :: (q 53 (.mv 5)).y 52 :: (q 54 (.binS .eql 53 (.c (.str [])))).y 52 :: q 55 (.pick 52 54 (.c (.bool false))) :: q 56 (.mv 55) :: (q 57 (.mv 6)).y 56 :: (q 58 (.binI .eql 57 (ki 0))).y 56 :: q 59 (.pick 56 58 (.c (.bool false))) :: q 60 (.mv 59) :: (q 61 (.mv 9)).y 60 :: q 62 (.pick 60 61 (.c (.bool false))) :: q 63 (.mv 62) :: (q 64 (.mv 10)).y 63 :: (q 65 (.binS .eql 64 (.c (.str [])))).y 63 :: q 66 (.pick 63 65 (.c (.bool false))) :: q 67 (.mv 66) :: (q 68 (.mv 11)).y 67 :: (q 69 (.binI .eql 68 (ki 0))).y 67 :: q 70 (.pick 67 69 (.c (.bool false))) :: q 71 (.mv 70) :: (q 72 (.mv 13)).y 71 :: q 73 (.pick 71 72 (.c (.bool false))) :: O7_20o1
def C7_1 : ACode := .s (.ops [q 0 (.mv (.c (.bool false)))]) (.s (.ops [qc 15 21 [(ku 97)], q 1 (.alloc [(.int .u8 0), (.int .u64 0), (.int .u64 0), (.int .u64 0), (.int .u64 0), (.int .i64 0), (.int .i64 0), (.int .i64 0), .nils]), q0 (.store 9 1 15)]) (.s (.ops [q 16 (.loadN 9 1), q 17 (.bslD 9 1 true [(.int .u8 0), (.int .u64 0), (.int .u64 0), (.int .u64 0), (.int .u64 0), (.int .i64 0), (.int .i64 0), (.int .i64 0), .nils] [(0, (9, 16))]), q 18 (.build [(.int .u8 0), (.int .u64 0), (.int .u64 0), (.int .u64 0), (.int .u64 0), (.int .i64 0), (.int .i64 0), (.int .i64 0), .nils] [(0, (1, (ku 5))), (6, (1, (ki (-1)))), (8, (1, 17))]), q 2 (.alloc [(.int .u8 0), (.int .u64 0), (.int .u64 0), (.int .u64 0), (.int .u64 0), (.int .i64 0), (.int .i64 0), (.int .i64 0), .nils]), q0 (.store 9 2 18)]) (.s (.ops [q 19 (.loadN 9 1), q 20 (.bslD 9 1 true [(.int .u8 0), (.int .u64 0), (.int .u64 0), (.int .u64 0), (.int .u64 0), (.int .i64 0), (.int .i64 0), (.int .i64 0), .nils] [(0, (9, 19))]), q 21 (.build [(.int .u8 0), (.int .u64 0), (.int .u64 0), (.int .u64 0), (.int .u64 0), (.int .i64 0), (.int .i64 0), (.int .i64 0), .nils] [(0, (1, (ku 5))), (5, (1, (ki 1))), (6, (1, (ki (-1)))), (8, (1, 20))]), q 3 (.alloc [(.int .u8 0), (.int .u64 0), (.int .u64 0), (.int .u64 0), (.int .u64 0), (.int .i64 0), (.int .i64 0), (.int .i64 0), .nils]), q0 (.store 9 3 21)]) (.s (.ops [q 23 (.loadN 9 2), q 24 (.loadN 9 3), qc 25 13 [23, 24], q 22 (.mv 25), q 26 (.extract 22 0), q 27 (.extract 22 1), q 28 (.extract 22 2), q 4 (.mv 26), q 5 (.mv 27), q 6 (.mv 28)]) (.s (.draw [] 0 1 [q 29 (.loadN 9 1), q 7 (.alloc [(.int .u8 0), (.int .u64 0), (.int .u64 0), (.int .u64 0), (.int .u64 0), (.int .i64 0), (.int .i64 0), (.int .i64 0), .nils]), qc 30 21 [(ku 98)], q 31 (.bslD 9 2 true [(.int .u8 0), (.int .u64 0), (.int .u64 0), (.int .u64 0), (.int .u64 0), (.int .i64 0), (.int .i64 0), (.int .i64 0), .nils] [(0, (9, 29)), (9, (9, 30))]), q 32 (.build [(.int .u8 0), (.int .u64 0), (.int .u64 0), (.int .u64 0), (.int .u64 0), (.int .i64 0), (.int .i64 0), (.int .i64 0), .nils] [(0, (1, (ku 4))), (8, (1, 31))])] [q0 (.store 9 7 32)]) (.s (.draw [] 0 1 [q 34 (.loadN 9 1), q 8 (.alloc [(.int .u8 0), (.int .u64 0), (.int .u64 0), (.int .u64 0), (.int .u64 0), (.int .i64 0), (.int .i64 0), (.int .i64 0), .nils]), qc 33 21 [(ku 98)], q 35 (.bslD 9 2 true [(.int .u8 0), (.int .u64 0), (.int .u64 0), (.int .u64 0), (.int .u64 0), (.int .i64 0), (.int .i64 0), (.int .i64 0), .nils] [(0, (9, 33)), (9, (9, 34))]), q 36 (.build [(.int .u8 0), (.int .u64 0), (.int .u64 0), (.int .u64 0), (.int .u64 0), (.int .i64 0), (.int .i64 0), (.int .i64 0), .nils] [(0, (1, (ku 4))), (8, (1, 35))])] [q0 (.store 9 8 36)]) (.s (.ops [q 38 (.loadN 9 7), q 39 (.loadN 9 8), qc 40 13 [38, 39], q 37 (.mv 40), q 41 (.extract 37 0), q 42 (.extract 37 1), q 43 (.extract 37 2), q 9 (.mv 41), q 10 (.mv 42), q 11 (.mv 43)]) (.s (.ops [q 45 (.loadN 9 3), qc 46 17 [45], q 44 (.mv 46), q 47 (.extract 44 0), q 48 (.extract 44 1), q 49 (.extract 44 2), q 12 (.mv 47), q 13 (.mv 48), q 14 (.mv 49)]) (.s (.ops O7_20o0) .ret)))))))))
def R7 : List RA := [(.tmp 0)]
theorem k7 : compF Tryd.prog (muL [17, 20, 31, 35]) 7 = some ⟨82, C7_1, R7⟩ := by kernel_rfl
noncomputable abbrev X7 (r : Bool) : Cx := cD Tryd.prog gE 82 R7 (AV.bool r) [17, 20, 31, 35]
noncomputable def F7  : Option Bool := (F21 97 >>= fun r_1 => (F13 ({ Kind := 5, Set := (Arr.rep 4 (0 : Int)), Min := 0, Max := (-1), Group := 0, Kids := (some ([r_1] : List T27)) } : T27) ({ Kind := 5, Set := (Arr.rep 4 (0 : Int)), Min := 1, Max := (-1), Group := 0, Kids := (some ([r_1] : List T27)) } : T27) >>= fun r_6 => (F21 98 >>= fun r_11 => (F21 98 >>= fun r_16 => (F13 ({ Kind := 4, Set := (Arr.rep 4 (0 : Int)), Min := 0, Max := 0, Group := 0, Kids := (some ([r_1, r_11] : List T27)) } : T27) ({ Kind := 4, Set := (Arr.rep 4 (0 : Int)), Min := 0, Max := 0, Group := 0, Kids := (some ([r_16, r_1] : List T27)) } : T27) >>= fun r_18 => (F17 ({ Kind := 5, Set := (Arr.rep 4 (0 : Int)), Min := 1, Max := (-1), Group := 0, Kids := (some ([r_1] : List T27)) } : T27) >>= fun r_20 => (if (!r_6.1) = true then (if (r_6.2.1 == ([] : Str)) = true then (if (r_6.2.2 == 0) = true then (if r_18.1 = true then (if (r_18.2.1 == ([] : Str)) = true then (if (r_18.2.2 == 0) = true then (if r_20.2.1 = true then (if (r_20.1 == ([97] : Str)) = true then (some (r_20.2.2 == 0)) else (some false)) else (some false)) else (some false)) else (some false)) else (some false)) else (some false)) else (some false)) else (some false))))))))
theorem d7  (r : Bool) (hF : F7 = some r) : DFun Tryd.prog gE 7 [] (AV.bool r) := by
 unfold F7 at hF
 refine bD k7 rfl ?_
 have hs : SH [] [] := SH.nil
 generalize ([] : Store) = st at hs ⊢
 obtain ⟨r_1, g_2, hF⟩ := bind_some hF
 refine rn 1 rfl ?_
 refine df (d21 97 _ g_2) rfl ?_
 refine al hs (cs := c27 ({ Kind := 0, Set := (Arr.rep 4 (0 : Int)), Min := 0, Max := 0, Group := 0, Kids := none } : T27)) rfl fun st b_3 hs => ?_
 refine sl hs 0 rfl rfl (LR.whole _ _) (c27_len _) rfl (c27_len _) (c27_one _) rfl fun st hs => ?_
 refine rn 0 rfl ?_
 refine W.o (e_loadN rfl (hs.g 0 rfl) (LR.whole _ _) (c27_len _)) ?_
 refine W.o (e_bslG (f := v27) (c := c27) ([r_1] : List T27) (pk_cons (cs := c27 r_1) rfl rfl (c27_len _) (by decide) pk_nil) rfl rfl c27_len c27_one (fun _ => rfl) rfl) ?_
 refine W.o (e_build (z := [(.int .u8 0), (.int .u64 0), (.int .u64 0), (.int .u64 0), (.int .u64 0), (.int .i64 0), (.int .i64 0), (.int .i64 0), .nils]) (cs := c27 ({ Kind := 5, Set := (Arr.rep 4 (0 : Int)), Min := 0, Max := (-1), Group := 0, Kids := (some ([r_1] : List T27)) } : T27)) (pk_cons (cs := cI .u8 5) rfl rfl ((cI_len .u8) _) (by decide) (pk_cons (cs := cI .i64 (-1)) rfl rfl ((cI_len .i64) _) (by decide) (pk_cons (cs := cSl 9 v27 (some ([r_1] : List T27))) (v := slV 9 v27 (some ([r_1] : List T27))) rfl slV_cells (cSl_len _) (by decide) pk_nil))) (show fillA (c27 ({ Kind := 0, Set := (Arr.rep 4 (0 : Int)), Min := 0, Max := 0, Group := 0, Kids := none } : T27)) _ = _ from (fl_cons (lr27_Kind ({ Kind := 0, Set := (Arr.rep 4 (0 : Int)), Min := 0, Max := 0, Group := 0, Kids := none } : T27) 5) (((cI_len .u8) _).trans ((cI_len .u8) _).symm) (fl_cons (lr27_Max ({ Kind := 5, Set := (Arr.rep 4 (0 : Int)), Min := 0, Max := 0, Group := 0, Kids := none } : T27) (-1)) (((cI_len .i64) _).trans ((cI_len .i64) _).symm) (fl_cons (lr27_Kids ({ Kind := 5, Set := (Arr.rep 4 (0 : Int)), Min := 0, Max := (-1), Group := 0, Kids := none } : T27) (some ([r_1] : List T27))) ((cSl_len _).trans (cSl_len _).symm) (fl_nil _)))))) ?_
 refine al hs (cs := c27 ({ Kind := 0, Set := (Arr.rep 4 (0 : Int)), Min := 0, Max := 0, Group := 0, Kids := none } : T27)) rfl fun st b_4 hs => ?_
 refine sl hs 0 rfl rfl (LR.whole _ _) (c27_len _) rfl (c27_len _) (c27_one _) rfl fun st hs => ?_
 refine rn 0 rfl ?_
 refine W.o (e_loadN rfl (hs.g 1 rfl) (LR.whole _ _) (c27_len _)) ?_
 refine W.o (e_bslG (f := v27) (c := c27) ([r_1] : List T27) (pk_cons (cs := c27 r_1) rfl rfl (c27_len _) (by decide) pk_nil) rfl rfl c27_len c27_one (fun _ => rfl) rfl) ?_
 refine W.o (e_build (z := [(.int .u8 0), (.int .u64 0), (.int .u64 0), (.int .u64 0), (.int .u64 0), (.int .i64 0), (.int .i64 0), (.int .i64 0), .nils]) (cs := c27 ({ Kind := 5, Set := (Arr.rep 4 (0 : Int)), Min := 1, Max := (-1), Group := 0, Kids := (some ([r_1] : List T27)) } : T27)) (pk_cons (cs := cI .u8 5) rfl rfl ((cI_len .u8) _) (by decide) (pk_cons (cs := cI .i64 1) rfl rfl ((cI_len .i64) _) (by decide) (pk_cons (cs := cI .i64 (-1)) rfl rfl ((cI_len .i64) _) (by decide) (pk_cons (cs := cSl 9 v27 (some ([r_1] : List T27))) (v := slV 9 v27 (some ([r_1] : List T27))) rfl slV_cells (cSl_len _) (by decide) pk_nil)))) (show fillA (c27 ({ Kind := 0, Set := (Arr.rep 4 (0 : Int)), Min := 0, Max := 0, Group := 0, Kids := none } : T27)) _ = _ from (fl_cons (lr27_Kind ({ Kind := 0, Set := (Arr.rep 4 (0 : Int)), Min := 0, Max := 0, Group := 0, Kids := none } : T27) 5) (((cI_len .u8) _).trans ((cI_len .u8) _).symm) (fl_cons (lr27_Min ({ Kind := 5, Set := (Arr.rep 4 (0 : Int)), Min := 0, Max := 0, Group := 0, Kids := none } : T27) 1) (((cI_len .i64) _).trans ((cI_len .i64) _).symm) (fl_cons (lr27_Max ({ Kind := 5, Set := (Arr.rep 4 (0 : Int)), Min := 1, Max := 0, Group := 0, Kids := none } : T27) (-1)) (((cI_len .i64) _).trans ((cI_len .i64) _).symm) (fl_cons (lr27_Kids ({ Kind := 5, Set := (Arr.rep 4 (0 : Int)), Min := 1, Max := (-1), Group := 0, Kids := none } : T27) (some ([r_1] : List T27))) ((cSl_len _).trans (cSl_len _).symm) (fl_nil _))))))) ?_
 refine al hs (cs := c27 ({ Kind := 0, Set := (Arr.rep 4 (0 : Int)), Min := 0, Max := 0, Group := 0, Kids := none } : T27)) rfl fun st b_5 hs => ?_
 refine sl hs 0 rfl rfl (LR.whole _ _) (c27_len _) rfl (c27_len _) (c27_one _) rfl fun st hs => ?_
 refine rn 0 rfl ?_
 refine W.o (e_loadN rfl (hs.g 1 rfl) (LR.whole _ _) (c27_len _)) ?_
 refine W.o (e_loadN rfl (hs.g 0 rfl) (LR.whole _ _) (c27_len _)) ?_
 obtain ⟨r_6, g_7, hF⟩ := bind_some hF
 refine df (d13 ({ Kind := 5, Set := (Arr.rep 4 (0 : Int)), Min := 0, Max := (-1), Group := 0, Kids := (some ([r_1] : List T27)) } : T27) ({ Kind := 5, Set := (Arr.rep 4 (0 : Int)), Min := 1, Max := (-1), Group := 0, Kids := (some ([r_1] : List T27)) } : T27) _ g_7) rfl ?_
 refine rn 7 rfl ?_
 refine drn hs fun s_8 st h0 hs => ?_
 refine de rfl (e_loadN rfl (h0.g 2 rfl) (LR.whole _ _) (c27_len _)) ?_
 refine dal hs 0 (cs := c27 ({ Kind := 0, Set := (Arr.rep 4 (0 : Int)), Min := 0, Max := 0, Group := 0, Kids := none } : T27)) rfl rfl rfl fun st hs => ?_
 obtain ⟨r_11, g_12, hF⟩ := bind_some hF
 refine ddf (d21 98 _ g_12) rfl ?_
 refine de rfl (e_bslG (f := v27) (c := c27) ([r_1, r_11] : List T27) (pk_cons (cs := c27 r_1) rfl rfl (c27_len _) (by decide) (pk_cons (cs := c27 r_11) rfl rfl (c27_len _) (by decide) pk_nil)) rfl rfl c27_len c27_one (fun _ => rfl) rfl) ?_
 refine de rfl (e_build (z := [(.int .u8 0), (.int .u64 0), (.int .u64 0), (.int .u64 0), (.int .u64 0), (.int .i64 0), (.int .i64 0), (.int .i64 0), .nils]) (cs := c27 ({ Kind := 4, Set := (Arr.rep 4 (0 : Int)), Min := 0, Max := 0, Group := 0, Kids := (some ([r_1, r_11] : List T27)) } : T27)) (pk_cons (cs := cI .u8 4) rfl rfl ((cI_len .u8) _) (by decide) (pk_cons (cs := cSl 9 v27 (some ([r_1, r_11] : List T27))) (v := slV 9 v27 (some ([r_1, r_11] : List T27))) rfl slV_cells (cSl_len _) (by decide) pk_nil)) (show fillA (c27 ({ Kind := 0, Set := (Arr.rep 4 (0 : Int)), Min := 0, Max := 0, Group := 0, Kids := none } : T27)) _ = _ from (fl_cons (lr27_Kind ({ Kind := 0, Set := (Arr.rep 4 (0 : Int)), Min := 0, Max := 0, Group := 0, Kids := none } : T27) 4) (((cI_len .u8) _).trans ((cI_len .u8) _).symm) (fl_cons (lr27_Kids ({ Kind := 4, Set := (Arr.rep 4 (0 : Int)), Min := 0, Max := 0, Group := 0, Kids := none } : T27) (some ([r_1, r_11] : List T27))) ((cSl_len _).trans (cSl_len _).symm) (fl_nil _))))) ?_
 refine dz ?_
 refine sl hs 0 rfl rfl (LR.whole _ _) (c27_len _) rfl (c27_len _) (c27_one _) rfl fun st hs => ?_
 refine rn 0 rfl ?_
 refine drn hs fun s_13 st h0 hs => ?_
 refine de rfl (e_loadN rfl (h0.g 3 rfl) (LR.whole _ _) (c27_len _)) ?_
 refine dal hs 0 (cs := c27 ({ Kind := 0, Set := (Arr.rep 4 (0 : Int)), Min := 0, Max := 0, Group := 0, Kids := none } : T27)) rfl rfl rfl fun st hs => ?_
 obtain ⟨r_16, g_17, hF⟩ := bind_some hF
 refine ddf (d21 98 _ g_17) rfl ?_
 refine de rfl (e_bslG (f := v27) (c := c27) ([r_16, r_1] : List T27) (pk_cons (cs := c27 r_16) rfl rfl (c27_len _) (by decide) (pk_cons (cs := c27 r_1) rfl rfl (c27_len _) (by decide) pk_nil)) rfl rfl c27_len c27_one (fun _ => rfl) rfl) ?_
 refine de rfl (e_build (z := [(.int .u8 0), (.int .u64 0), (.int .u64 0), (.int .u64 0), (.int .u64 0), (.int .i64 0), (.int .i64 0), (.int .i64 0), .nils]) (cs := c27 ({ Kind := 4, Set := (Arr.rep 4 (0 : Int)), Min := 0, Max := 0, Group := 0, Kids := (some ([r_16, r_1] : List T27)) } : T27)) (pk_cons (cs := cI .u8 4) rfl rfl ((cI_len .u8) _) (by decide) (pk_cons (cs := cSl 9 v27 (some ([r_16, r_1] : List T27))) (v := slV 9 v27 (some ([r_16, r_1] : List T27))) rfl slV_cells (cSl_len _) (by decide) pk_nil)) (show fillA (c27 ({ Kind := 0, Set := (Arr.rep 4 (0 : Int)), Min := 0, Max := 0, Group := 0, Kids := none } : T27)) _ = _ from (fl_cons (lr27_Kind ({ Kind := 0, Set := (Arr.rep 4 (0 : Int)), Min := 0, Max := 0, Group := 0, Kids := none } : T27) 4) (((cI_len .u8) _).trans ((cI_len .u8) _).symm) (fl_cons (lr27_Kids ({ Kind := 4, Set := (Arr.rep 4 (0 : Int)), Min := 0, Max := 0, Group := 0, Kids := none } : T27) (some ([r_16, r_1] : List T27))) ((cSl_len _).trans (cSl_len _).symm) (fl_nil _))))) ?_
 refine dz ?_
 refine sl hs 0 rfl rfl (LR.whole _ _) (c27_len _) rfl (c27_len _) (c27_one _) rfl fun st hs => ?_
 refine rn 0 rfl ?_
 refine W.o (e_loadN rfl (hs.g 1 rfl) (LR.whole _ _) (c27_len _)) ?_
 refine W.o (e_loadN rfl (hs.g 0 rfl) (LR.whole _ _) (c27_len _)) ?_
 obtain ⟨r_18, g_19, hF⟩ := bind_some hF
 refine df (d13 ({ Kind := 4, Set := (Arr.rep 4 (0 : Int)), Min := 0, Max := 0, Group := 0, Kids := (some ([r_1, r_11] : List T27)) } : T27) ({ Kind := 4, Set := (Arr.rep 4 (0 : Int)), Min := 0, Max := 0, Group := 0, Kids := (some ([r_16, r_1] : List T27)) } : T27) _ g_19) rfl ?_
 refine rn 7 rfl ?_
 refine W.o (e_loadN rfl (hs.g 2 rfl) (LR.whole _ _) (c27_len _)) ?_
 obtain ⟨r_20, g_21, hF⟩ := bind_some hF
 refine df (d17 ({ Kind := 5, Set := (Arr.rep 4 (0 : Int)), Min := 1, Max := (-1), Group := 0, Kids := (some ([r_1] : List T27)) } : T27) _ g_21) rfl ?_
 refine rn 10 rfl ?_
 refine bi hF (fun c_22 hF => ?_) (fun c_22 hF => ?_)
 · refine wfx 52 rfl c_22 ?_
   refine rn 4 rfl ?_
   refine bi hF (fun c_23 hF => ?_) (fun c_23 hF => ?_)
   · refine wfx 56 rfl c_23 ?_
     refine rn 4 rfl ?_
     refine bi hF (fun c_24 hF => ?_) (fun c_24 hF => ?_)
     · refine wfx 60 rfl c_24 ?_
       refine rn 3 rfl ?_
       refine bi hF (fun c_25 hF => ?_) (fun c_25 hF => ?_)
       · refine wfx 63 rfl c_25 ?_
         refine rn 4 rfl ?_
         refine bi hF (fun c_26 hF => ?_) (fun c_26 hF => ?_)
         · refine wfx 67 rfl c_26 ?_
           refine rn 4 rfl ?_
           refine bi hF (fun c_27 hF => ?_) (fun c_27 hF => ?_)
           · refine wfx 71 rfl c_27 ?_
             refine rn 3 rfl ?_
             refine bi hF (fun c_28 hF => ?_) (fun c_28 hF => ?_)
             · refine wfx 74 rfl c_28 ?_
               refine rn 4 rfl ?_
               refine bi hF (fun c_29 hF => ?_) (fun c_29 hF => ?_)
               · refine wfx 78 rfl c_29 ?_
                 refine rn 4 rfl ?_
                 cases hF
                 exact rD (rlt rl0) rfl
               · refine wfx 78 rfl c_29 ?_
                 refine rn 4 rfl ?_
                 cases hF
                 exact rD (rlt rl0) rfl
             · refine wfx 74 rfl c_28 ?_
               refine rn 8 rfl ?_
               cases hF
               exact rD (rlt rl0) rfl
           · refine wfx 71 rfl c_27 ?_
             refine rn 11 rfl ?_
             cases hF
             exact rD (rlt rl0) rfl
         · refine wfx 67 rfl c_26 ?_
           refine rn 15 rfl ?_
           cases hF
           exact rD (rlt rl0) rfl
       · refine wfx 63 rfl c_25 ?_
         refine rn 19 rfl ?_
         cases hF
         exact rD (rlt rl0) rfl
     · refine wfx 60 rfl c_24 ?_
       refine rn 22 rfl ?_
       cases hF
       exact rD (rlt rl0) rfl
   · refine wfx 56 rfl c_23 ?_
     refine rn 26 rfl ?_
     cases hF
     exact rD (rlt rl0) rfl
 · refine wfx 52 rfl c_22 ?_
   refine rn 30 rfl ?_
   cases hF
   exact rD (rlt rl0) rfl
end Go.Proofs.YtcidnoghoifmmaaDoor
end
section
/-
  Functions of the program's as plain functions.
-/

set_option linter.unusedVariables false
set_option linter.unusedSimpArgs false
set_option maxRecDepth 4000
set_option maxHeartbeats 4000000
namespace Go.Proofs.YtcidnoghoifmmaaDoor
open Go AW
attribute [local irreducible] W WD SH XS XLoop DFun XCall XYield
def C5_1 : ACode := .s (.ops [q 3 (.boxD 9 0), q 4 (.boxD 9 1), q 5 (.boxD 9 2), q 6 (.mv (.c (.bool false)))]) (.s (.s (.ops [qc 16 7 [], q 17 (.un .not 16)]) (.cond 17 (.s (.ops [q 6 (.mv (.c (.bool false)))]) .ret) .skip)) (.s (.ops [q 19 (.loadN 9 3), q 20 (.loadN 9 4), qc 21 15 [19, 20], q 18 (.mv 21), q 22 (.extract 18 0), q 23 (.extract 18 1), q 24 (.extract 18 2), q 7 (.mv 22), q 8 (.mv 23), q 9 (.mv 24)]) (.s (.ops [q 26 (.loadN 9 4), q 27 (.loadN 9 5), qc 28 15 [26, 27], q 25 (.mv 28), q 29 (.extract 25 0), q 30 (.extract 25 1), q 31 (.extract 25 2), q 10 (.mv 29), q 11 (.mv 30), q 12 (.mv 31)]) (.s (.ops [q 33 (.loadN 9 3), q 34 (.loadN 9 5), qc 35 15 [33, 34], q 32 (.mv 35), q 36 (.extract 32 0), q 37 (.extract 32 1), q 38 (.extract 32 2), q 13 (.mv 36), q 14 (.mv 37), q 15 (.mv 38)]) (.s (.s (.ops [q 39 (.mv 9), q 40 (.binI .neq 39 (ki 0)), q 41 (.mv 40), (q 42 (.mv 12)).n 41, (q 43 (.binI .neq 42 (ki 0))).n 41, q 44 (.pick 41 (.c (.bool true)) 43), q 45 (.mv 44), (q 46 (.mv 15)).n 45, (q 47 (.binI .neq 46 (ki 0))).n 45, q 48 (.pick 45 (.c (.bool true)) 47)]) (.cond 48 (.s (.ops [q 6 (.mv (.c (.bool true)))]) .ret) .skip)) (.s (.ops [q 49 (.mv 7), q 50 (.un .not 49), q 51 (.mv 50), (q 52 (.mv 10)).n 51, (q 53 (.un .not 52)).n 51, q 54 (.pick 51 (.c (.bool true)) 53), q 55 (.mv 54), (q 56 (.mv 13)).n 55, q 57 (.pick 55 (.c (.bool true)) 56), q 6 (.mv 57)]) .ret))))))
def R5 : List RA := [(.tmp 6)]
theorem k5 : compF Tryd.prog (muL [3, 4, 5]) 5 = some ⟨58, C5_1, R5⟩ := by kernel_rfl
noncomputable abbrev X5 (r : Bool) : Cx := cD Tryd.prog gE 58 R5 (AV.bool r) [3, 4, 5]
noncomputable def F5 (a : T27) (b : T27) (c : T27) : Option Bool := (F7 >>= fun r_1 => (if (!r_1) = true then (some false) else (F15 a b >>= fun r_4 => (F15 b c >>= fun r_6 => (F15 a c >>= fun r_8 => (if (r_4.2.2 != 0) = true then (some true) else (if (r_6.2.2 != 0) = true then (some true) else (if (r_8.2.2 != 0) = true then (some true) else (if (!r_4.1) = true then (some true) else (if (!r_6.1) = true then (some true) else (some r_8.1)))))))))))
theorem d5 (a : T27) (b : T27) (c : T27) (r : Bool) (hF : F5 a b c = some r) : DFun Tryd.prog gE 5 [v27 a, v27 b, v27 c] (AV.bool r) := by
 unfold F5 at hF
 refine bD k5 rfl ?_
 have hs : SH [] [] := SH.nil
 generalize ([] : Store) = st at hs ⊢
 refine rn 0 rfl ?_
 refine W.o (e_boxD (cs := c27 a) rfl (by rw [c27_len]; rfl) (c27_one _)) ?_
 refine W.o (e_boxD (cs := c27 b) rfl (by rw [c27_len]; rfl) (c27_one _)) ?_
 refine W.o (e_boxD (cs := c27 c) rfl (by rw [c27_len]; rfl) (c27_one _)) ?_
 obtain ⟨r_1, g_2, hF⟩ := bind_some hF
 refine rn 1 rfl ?_
 refine df (d7 _ g_2) rfl ?_
 refine rn 1 rfl ?_
 refine ci hF rfl (fun c_3 hF => ?_) (fun c_3 hF => ?_)
 · refine rn 1 rfl ?_
   cases hF
   exact rD (rlt rl0) rfl
 · refine rn 0 rfl ?_
   refine W.o (e_loadND rfl (DP.refl _) (c27_len _)) ?_
   refine W.o (e_loadND rfl (DP.refl _) (c27_len _)) ?_
   obtain ⟨r_4, g_5, hF⟩ := bind_some hF
   refine df (d15 a b _ g_5) rfl ?_
   refine rn 7 rfl ?_
   refine W.o (e_loadND rfl (DP.refl _) (c27_len _)) ?_
   refine W.o (e_loadND rfl (DP.refl _) (c27_len _)) ?_
   obtain ⟨r_6, g_7, hF⟩ := bind_some hF
   refine df (d15 b c _ g_7) rfl ?_
   refine rn 7 rfl ?_
   refine W.o (e_loadND rfl (DP.refl _) (c27_len _)) ?_
   refine W.o (e_loadND rfl (DP.refl _) (c27_len _)) ?_
   obtain ⟨r_8, g_9, hF⟩ := bind_some hF
   refine df (d15 a c _ g_9) rfl ?_
   refine rn 10 rfl ?_
   refine bi hF (fun c_10 hF => ?_) (fun c_10 hF => ?_)
   · refine wfx 41 rfl c_10 ?_
     refine rn 7 rfl ?_
     refine ct rfl rfl ?_
     refine rn 1 rfl ?_
     cases hF
     exact rD (rlt rl0) rfl
   · refine wfx 41 rfl c_10 ?_
     refine rn 4 rfl ?_
     refine bi hF (fun c_11 hF => ?_) (fun c_11 hF => ?_)
     · refine wfx 45 rfl c_11 ?_
       refine rn 3 rfl ?_
       refine ct rfl rfl ?_
       refine rn 1 rfl ?_
       cases hF
       exact rD (rlt rl0) rfl
     · refine wfx 45 rfl c_11 ?_
       refine rn 3 rfl ?_
       refine ci hF rfl (fun c_12 hF => ?_) (fun c_12 hF => ?_)
       · refine rn 1 rfl ?_
         cases hF
         exact rD (rlt rl0) rfl
       · refine rn 3 rfl ?_
         refine bi hF (fun c_13 hF => ?_) (fun c_13 hF => ?_)
         · refine wfx 51 rfl c_13 ?_
           refine rn 7 rfl ?_
           cases hF
           exact rD (rlt rl0) rfl
         · refine wfx 51 rfl c_13 ?_
           refine rn 4 rfl ?_
           refine bi hF (fun c_14 hF => ?_) (fun c_14 hF => ?_)
           · refine wfx 55 rfl c_14 ?_
             refine rn 3 rfl ?_
             cases hF
             exact rD (rlt rl0) rfl
           · refine wfx 55 rfl c_14 ?_
             refine rn 3 rfl ?_
             cases hF
             exact rD (rlt rl0) rfl
end Go.Proofs.YtcidnoghoifmmaaDoor
end
section
/-
  Plain words for printed functions: binds, guards, wrapped numbers, lists read by index, slices as lists.
-/

namespace Go.Proofs.YtcidnoghoifmmaaDoor
open Go AW
set_option linter.unusedVariables false
set_option linter.unusedSimpArgs false
theorem sm {α β : Type} (a : α) (f : α → Option β) : (some a >>= f) = f a := rfl
theorem fi_ {α : Type} {b : Bool} {x y : α} (h : b = false) : (if b = true then x else y) = y := by rw [h]; rfl
theorem dti {p : Prop} [Decidable p] {α : Type} {x y : α} (h : p) : (if decide p = true then x else y) = x := by simp [h]
theorem dfi {p : Prop} [Decidable p] {α : Type} {x y : α} (h : ¬ p) : (if decide p = true then x else y) = y := by simp [h]
theorem eti {a b : Int} {α : Type} {x y : α} (h : a = b) : (if (a == b) = true then x else y) = x := by simp [h]
theorem efi {a b : Int} {α : Type} {x y : α} (h : a ≠ b) : (if (a == b) = true then x else y) = y := by simp [h]
theorem nti {a b : Int} {α : Type} {x y : α} (h : a ≠ b) : (if (a != b) = true then x else y) = x := by simp [h]
theorem nfi {a b : Int} {α : Type} {x y : α} (h : a = b) : (if (a != b) = true then x else y) = y := by simp [h]
theorem wi (x : Int) (h : -9223372036854775808 ≤ x) (h' : x ≤ 9223372036854775807) : IntKind.wrap .i64 x = x := by
  simp only [IntKind.wrap, IntKind.bits, IntKind.signed, Bool.true_and, decide_eq_true_eq, ge_iff_le]
  have e : (2 : Int) ^ 64 = 18446744073709551616 := by decide
  have e' : (2 : Int) ^ (64 - 1) = 9223372036854775808 := by decide
  first
    | (split <;> omega)
    | (simp only [e, e']; split <;> omega)
theorem wn1 (n : Nat) (h : n < 9223372036854775807) : IntKind.wrap .i64 ((n : Int) + 1) = ((n + 1 : Nat) : Int) := by rw [wi _ (by omega) (by omega)]; omega
theorem wm1 (n : Nat) (h : 1 ≤ n) (h' : n < 9223372036854775807) : IntKind.wrap .i64 ((n : Int) - 1) = ((n - 1 : Nat) : Int) := by rw [wi _ (by omega) (by omega)]; omega
theorem ixs {α : Type} {l : List α} {i : Nat} {c : α} (h : l[i]? = some c) : ix l (i : Int) = some c := by rw [ix_nat]; exact h
theorem get_ex {α : Type} (l : List α) {i : Nat} (h : i < l.length) : ∃ c, l[i]? = some c := ⟨l[i], by simp [h]⟩
theorem drop_cons {α : Type} {l : List α} {i : Nat} {c : α} (h : l[i]? = some c) : l.drop i = c :: l.drop (i + 1) := by
  have hi : i < l.length := by rw [List.getElem?_eq_some_iff] at h; exact h.1
  rw [List.drop_eq_getElem_cons hi]
  congr 1
  rw [List.getElem?_eq_some_iff] at h
  exact h.2
theorem take_snoc {α : Type} {l : List α} {i : Nat} {c : α} (h : l[i]? = some c) : l.take (i + 1) = l.take i ++ [c] := by
  rw [List.take_add_one, h]; rfl
theorem ge_lt {α : Type} {l : List α} {i : Nat} {c : α} (h : l[i]? = some c) : i < l.length := by rw [List.getElem?_eq_some_iff] at h; exact h.1
def so {α : Type} : List α → Sl α
  | [] => none
  | x :: l => some (x :: l)
theorem ls_so {α : Type} (l : List α) : ls (so l) = l := by cases l <;> rfl
theorem sapp_so {α : Type} (l m : List α) : sapp (so l) m = so (l ++ m) := by
  cases l with
  | nil => cases m <;> rfl
  | cons x l => rfl
end Go.Proofs.YtcidnoghoifmmaaDoor
end
section
/-
  Nfa: trees: their nodes counted, walked, checked.
-/


namespace Go.Proofs.YtcidnoghoifmmaaDoor
open Go AW
set_option linter.unusedVariables false
set_option linter.unusedSimpArgs false
set_option maxHeartbeats 4000000
mutual
def cnt : T27 → Nat
  | ⟨_, _, _, _, _, o⟩ => cnto o + 1
def cnto : Option (List T27) → Nat
  | none => 0
  | some l => cntl l
def cntl : List T27 → Nat
  | [] => 0
  | x :: l => cnt x + cntl l
end
theorem cnt_eq (n : T27) : cnt n = cntl (ls n.Kids) + 1 := by
  obtain ⟨_, _, _, _, _, o⟩ := n
  rw [cnt]
  cases o with
  | none => rfl
  | some l => rfl
theorem cnt_mem : ∀ {l : List T27} {k : T27}, k ∈ l → cnt k ≤ cntl l
  | [], k, h => by simp at h
  | x :: l, k, h => by
    rw [cntl]
    rcases List.mem_cons.1 h with rfl | h
    · omega
    · have := cnt_mem h; omega
theorem cnt_kid {n k : T27} (h : k ∈ ls n.Kids) : cnt k < cnt n := by
  have := cnt_mem h
  rw [cnt_eq n]; omega
theorem cnt_pos (n : T27) : 1 ≤ cnt n := by rw [cnt_eq]; omega
theorem cntl_len : ∀ l : List T27, l.length ≤ cntl l
  | [] => by simp
  | x :: l => by have := cntl_len l; have := cnt_pos x; rw [cntl, List.length_cons]; omega
theorem tree_ind {P : T27 → Prop} (h : ∀ n, (∀ k ∈ ls n.Kids, P k) → P n) : ∀ n, P n := by
  have key : ∀ (m : Nat) (n : T27), cnt n ≤ m → P n := by
    intro m
    induction m with
    | zero => intro n hn; have := cnt_pos n; omega
    | succ m ih => exact fun n hn => h n fun k hk => ih k (by have := cnt_kid hk; omega)
  exact fun n => key _ n (Nat.le_refl _)
theorem cntl_drop {l : List T27} {i : Nat} {k : T27} (h : l[i]? = some k) : cntl (l.drop i) = cnt k + cntl (l.drop (i + 1)) := by rw [drop_cons h, cntl]
abbrev Cz := Int × Int × Nat
def cres (t : Int) (c m : Nat) : Bool × Cz := if c + m ≤ 8192 then (true, (t, ((c + m : Nat) : Int), 0)) else (false, (3, 8193, 1))
theorem b12 (a b x : T27) (t : Int) (c : Nat) (hc : c ≤ 8192) : B50_1 a b x (t, (c : Int), 0) = some (cres t c 1) := by
  unfold B50_1 cres
  simp only
  rw [if_pos trivial, wn1 c (by omega)]
  by_cases h : c + 1 ≤ 8192
  · rw [dfi (by omega), if_pos h]
  · have : c = 8192 := by omega
    subst this
    rw [dti (by omega), if_neg (by omega)]; rfl
theorem g41_1 (a b : T27) (n : T27) (hn : ∀ k ∈ ls n.Kids, ∀ (t : Int) (c : Nat), c ≤ 8192 → G82 (B50_1 a b) (.e k (t, (c : Int), 0)) = some (cres t c (cnt k))) (t : Int) :
    ∀ (m i c : Nat), m + i = (ls n.Kids).length → i ≤ c → c ≤ 8192 → G82 (B50_1 a b) (.p1 n ((ls n.Kids).length : Int) (i : Int) (t, (c : Int), 0)) = some (cres t c (cntl ((ls n.Kids).drop i)))
  | 0, i, c, h, hi, hc => by
    rw [G82.eq_2, dfi (by omega), List.drop_of_length_le (by omega), cres, cntl, if_pos (by omega), Nat.add_zero]
  | m + 1, i, c, h, hi, hc => by
    obtain ⟨k, hk⟩ := get_ex (ls n.Kids) (i := i) (by omega)
    have hp := cnt_pos k
    rw [G82.eq_2, dti (by omega), ixs hk, sm, hn k (List.mem_of_getElem? hk) t c hc, sm, cntl_drop hk]
    unfold cres
    by_cases h1 : c + cnt k ≤ 8192
    · rw [if_pos h1]
      simp only [Bool.not_true, Bool.false_eq_true, if_false]
      rw [wn1 i (by omega), g41_1 a b n hn t m (i + 1) (c + cnt k) (by omega) (by omega) h1]
      unfold cres
      rw [Nat.add_assoc]
    · rw [if_neg h1, if_neg (show ¬ c + (cnt k + cntl ((ls n.Kids).drop (i + 1))) ≤ 8192 by omega)]; rfl
theorem g41 (a b : T27) : ∀ (n : T27) (t : Int) (c : Nat), c ≤ 8192 → G82 (B50_1 a b) (.e n (t, (c : Int), 0)) = some (cres t c (cnt n)) := by
  intro n
  induction n using tree_ind with
  | h n ih =>
    intro t c hc
    rw [G82.eq_1, b12 a b n t c hc, sm, cnt_eq]
    unfold cres
    by_cases h1 : c + 1 ≤ 8192
    · rw [if_pos h1]
      simp only [Bool.not_true, Bool.false_eq_true, if_false]
      have := g41_1 a b n ih t (ls n.Kids).length 0 (c + 1) (by omega) (by omega) h1
      have this' : G82 (B50_1 a b) (.p1 n ((ls n.Kids).length : Int) 0 (t, ((c + 1 : Nat) : Int), 0)) = _ := this
      rw [this', List.drop_zero]
      unfold cres
      rw [Nat.add_assoc, Nat.add_comm 1]
    · rw [if_neg h1, if_neg (show ¬ c + (cntl (ls n.Kids) + 1) ≤ 8192 by omega)]; rfl
theorem f40 (a b n : T27) (t : Int) : F81 (B50_1 a b) n (t, 0, 0) = some (if cnt n ≤ 8192 then (t, (cnt n : Int), 0) else (3, 8193, 1)) := by
  unfold F81 F82
  have := g41 a b n t 0 (by omega)
  have this' : G82 (B50_1 a b) (.e n (t, 0, 0)) = _ := this
  rw [this', sm]
  unfold cres
  rw [Nat.zero_add]
  split <;> rfl

def pl (n : T27) : Bool :=
  (if n.Kind = 3 ∨ n.Kind = 4 then decide (2 ≤ (ls n.Kids).length)
   else if n.Kind = 5 then decide (0 ≤ n.Min ∧ n.Min ≤ 255 ∧ (n.Max = -1 ∨ n.Min ≤ n.Max ∧ n.Max ≤ 255)) && decide ((ls n.Kids).length = 1)
   else if n.Kind = 6 then decide ((ls n.Kids).length = 1)
   else if n.Kind = 1 ∨ n.Kind = 2 ∨ n.Kind = 7 ∨ n.Kind = 8 ∨ n.Kind = 9 then decide ((ls n.Kids).length = 0) else false) &&
  (decide (n.Kind = 2) || decide (n.Set = Arr.rep 4 0)) && (decide (n.Kind = 5) || decide (n.Min = 0 ∧ n.Max = 0)) && (decide (n.Kind = 6) || decide (n.Kind = 7) || decide (n.Group = 0))
theorem g31 (n : T27) (k w : Int) : G69 (.p1 n k w) = some (decide (k = w) && (decide (n.Kind = 2) || decide (n.Set = Arr.rep 4 0)) && (decide (n.Kind = 5) || decide (n.Min = 0 ∧ n.Max = 0)) && (decide (n.Kind = 6) || decide (n.Kind = 7) || decide (n.Group = 0))) := by
  have e : ∀ a b : Int, (a == b) = decide (a = b) := fun a b => by rw [Bool.eq_iff_iff]; simp
  rw [G69.eq_1]
  simp only [e]
  by_cases h1 : k = w <;> by_cases h2 : n.Kind = 2 <;> by_cases h3 : n.Set = Arr.rep 4 0 <;> by_cases h4 : n.Kind = 5 <;> by_cases h5 : n.Min = 0 <;> by_cases h6 : n.Max = 0 <;> by_cases h7 : n.Kind = 6 <;> by_cases h8 : n.Kind = 7 <;> simp [h1, h2, h3, h4, h5, h6, h7, h8] <;> omega
theorem nkinds (k : Int) : k = 1 ∨ k = 2 ∨ k = 3 ∨ k = 4 ∨ k = 5 ∨ k = 6 ∨ k = 7 ∨ k = 8 ∨ k = 9 ∨ (k ≠ 1 ∧ k ≠ 2 ∧ k ≠ 3 ∧ k ≠ 4 ∧ k ≠ 5 ∧ k ≠ 6 ∧ k ≠ 7 ∧ k ≠ 8 ∧ k ≠ 9) := by omega
theorem f31 (n : T27) : F69 n = some (pl n) := by
  unfold F69 pl
  simp only [g31]
  have e2 : decide (((ls n.Kids).length : Int) = if 2 > ((ls n.Kids).length : Int) then 2 else ((ls n.Kids).length : Int)) = decide (2 ≤ (ls n.Kids).length) := by
    rw [Bool.eq_iff_iff, decide_eq_true_eq, decide_eq_true_eq]; split <;> omega
  have e1 : decide (((ls n.Kids).length : Int) = 1) = decide ((ls n.Kids).length = 1) := by
    rw [Bool.eq_iff_iff, decide_eq_true_eq, decide_eq_true_eq]; omega
  have e0 : decide (((ls n.Kids).length : Int) = 0) = decide ((ls n.Kids).length = 0) := by
    rw [Bool.eq_iff_iff, decide_eq_true_eq, decide_eq_true_eq]; omega
  simp only [e2, e1, e0]
  rcases nkinds n.Kind with h | h | h | h | h | h | h | h | h | h
  case inr.inr.inr.inr.inl =>
    simp (config := {decide := true}) only [h, if_true, if_false]
    by_cases h1 : n.Min < 0
    · rw [dti h1, decide_eq_false (p := 0 ≤ n.Min ∧ _) (by omega)]; simp
    rw [dfi h1]
    by_cases h2 : n.Min > 255
    · rw [dti h2, decide_eq_false (p := 0 ≤ n.Min ∧ _) (by omega)]; simp
    rw [dfi h2]
    by_cases h3 : n.Max = -1
    · rw [nfi h3, decide_eq_true (p := 0 ≤ n.Min ∧ _) (by omega)]; simp
    rw [nti h3]
    by_cases h4 : n.Max < n.Min
    · rw [dti h4, decide_eq_false (p := 0 ≤ n.Min ∧ _) (by omega)]; simp
    rw [dfi h4]
    by_cases h5 : n.Max > 255
    · rw [dti h5, decide_eq_false (p := 0 ≤ n.Min ∧ _) (by omega)]; simp
    rw [dfi h5, decide_eq_true (p := 0 ≤ n.Min ∧ _) (by omega)]; simp
  case inr.inr.inr.inr.inr.inr.inr.inr.inr =>
    obtain ⟨a1, a2, a3, a4, a5, a6, a7, a8, a9⟩ := h
    have e1 : ∀ k : Int, n.Kind ≠ k → (n.Kind == k) = false := fun k h => by simpa using h
    simp (config := {decide := true}) only [e1 _ a1, e1 _ a2, e1 _ a3, e1 _ a4, e1 _ a5, e1 _ a6, e1 _ a7, e1 _ a8, e1 _ a9, a1, a2, a3, a4, a5, a6, a7, a8, a9, if_false, or_self, Bool.false_and, Bool.false_eq_true]
  all_goals simp (config := {decide := true}) only [h, if_true, if_false, true_or, or_true, or_false, false_or]
end Go.Proofs.YtcidnoghoifmmaaDoor
end
section
/-
  Nfa: which trees are right: Check.
-/

namespace Go.Proofs.YtcidnoghoifmmaaDoor
open Go AW
set_option linter.unusedVariables false
set_option linter.unusedSimpArgs false
set_option maxHeartbeats 4000000
mutual
def gcnt : T27 → Nat
  | ⟨k, _, _, _, _, o⟩ => (if k = 6 then 1 else 0) + gcnto o
def gcnto : Option (List T27) → Nat
  | none => 0
  | some l => gcntl l
def gcntl : List T27 → Nat
  | [] => 0
  | x :: l => gcnt x + gcntl l
end
theorem gcnt_eq (n : T27) : gcnt n = (if n.Kind = 6 then 1 else 0) + gcntl (ls n.Kids) := by
  obtain ⟨_, _, _, _, _, o⟩ := n
  rw [gcnt]
  cases o with
  | none => rfl
  | some l => rfl
def goodp (n : T27) (b : Nat) : Prop := pl n = true ∧ (n.Kind = 6 → n.Group = (b : Int) + 1 ∧ b + 1 ≤ 99) ∧ (n.Kind = 7 → 1 ≤ n.Group ∧ n.Group ≤ 9 ∧ n.Group ≤ (b : Int))
mutual
def good : T27 → Nat → Prop
  | ⟨k, st, mn, mx, g, o⟩, b => goodp ⟨k, st, mn, mx, g, o⟩ b ∧ goodo o (b + if k = 6 then 1 else 0)
def goodo : Option (List T27) → Nat → Prop
  | none, _ => True
  | some l, b => goodl l b
def goodl : List T27 → Nat → Prop
  | [], _ => True
  | x :: l, b => good x b ∧ goodl l (b + gcnt x)
end
theorem good_eq (n : T27) (b : Nat) : good n b ↔ goodp n b ∧ goodl (ls n.Kids) (b + if n.Kind = 6 then 1 else 0) := by
  obtain ⟨k, st, mn, mx, g, o⟩ := n
  rw [good]
  cases o with
  | none => simp [goodo, ls, goodl]
  | some l => rw [goodo]; rfl
theorem ls_sapp1 {α : Type} (o : Sl α) (x : α) : ls (sapp o (ls (some [x]))) = ls o ++ [x] := by rw [ls_sapp]; rfl
theorem p4_no (n : T27) (hl : (ls n.Kids).length ≤ 100000) (b : Int) (E : Sl Bool) : ∀ (m i : Nat), m + i = (ls n.Kids).length → G68 (.p4 n ((ls n.Kids).length : Int) (i : Int) false b E) = some (false, b, E)
  | 0, i, h => by rw [G68.eq_5, dfi (by omega), if_neg (by simp)]
  | m + 1, i, h => by rw [G68.eq_5, dti (by omega), if_neg (by simp), wn1 i (by omega), p4_no n hl b E m (i + 1) (by omega)]
def Chk (b m : Nat) (g : Prop) (gc : Nat) (r : Option (Bool × Int × Sl Bool)) : Prop :=
  ∃ (ok : Bool) (b' : Nat) (E' : Sl Bool), r = some (ok, (b' : Int), E') ∧ (ls E').length = b' ∧ b ≤ b' ∧ b' ≤ b + m ∧ (ok = true → g) ∧ (ok = true → b' = b + gc)
theorem g30_4 (n : T27) (hl : (ls n.Kids).length ≤ 100000) (ih : ∀ k ∈ ls n.Kids, ∀ (b : Nat) (E : Sl Bool), (ls E).length = b → b + cnt k ≤ 100000 → Chk b (cnt k) (good k b) (gcnt k) (G68 (.e k true (b : Int) E))) :
    ∀ (m i b : Nat) (E : Sl Bool), m + i = (ls n.Kids).length → (ls E).length = b → b + cntl ((ls n.Kids).drop i) ≤ 100000 → (n.Kind = 6 → 1 ≤ n.Group ∧ n.Group ≤ (b : Int)) →
    Chk b (cntl ((ls n.Kids).drop i)) (goodl ((ls n.Kids).drop i) b) (gcntl ((ls n.Kids).drop i)) (G68 (.p4 n ((ls n.Kids).length : Int) (i : Int) true (b : Int) E))
  | 0, i, b, E, h, hE, hb, hg => by
    rw [G68.eq_5, dfi (by omega), if_pos rfl, List.drop_of_length_le (by omega)]
    by_cases h6 : n.Kind = 6
    · have := hg h6
      obtain ⟨g, hgn⟩ : ∃ g : Nat, n.Group - 1 = g := ⟨(n.Group - 1).toNat, by omega⟩
      obtain ⟨v, hv⟩ := get_ex (ls E) (i := g) (by omega)
      rw [eti h6, wi _ (by omega) (by omega), hgn, ixs hv, sm]
      exact ⟨true, b, _, rfl, by rw [ls_vset, List.length_set, hE], by omega, by omega, fun _ => by rw [goodl]; trivial, fun _ => rfl⟩
    · rw [efi h6]
      exact ⟨true, b, E, rfl, hE, by omega, by omega, fun _ => by rw [goodl]; trivial, fun _ => rfl⟩
  | m + 1, i, b, E, h, hE, hb, hg => by
    obtain ⟨k, hk⟩ := get_ex (ls n.Kids) (i := i) (by omega)
    have hd := cntl_drop hk
    have hgd : gcntl ((ls n.Kids).drop i) = gcnt k + gcntl ((ls n.Kids).drop (i + 1)) := by rw [drop_cons hk, gcntl]
    have hgo : goodl ((ls n.Kids).drop i) b ↔ good k b ∧ goodl ((ls n.Kids).drop (i + 1)) (b + gcnt k) := by rw [drop_cons hk, goodl]
    rw [G68.eq_5, dti (by omega), if_pos rfl, ixs hk, sm, hd, hgd, hgo]
    obtain ⟨ok, b', E', e, h1, h2, h3, h4, h5⟩ := ih k (List.mem_of_getElem? hk) b E hE (by omega)
    rw [e, sm, wn1 i (by omega)]
    cases ok with
    | false =>
      rw [p4_no n hl _ _ m (i + 1) (by omega)]
      exact ⟨false, b', E', rfl, h1, h2, by omega, fun h => (by cases h), fun h => by cases h⟩
    | true =>
      have h4' := h4 rfl
      have h5' := h5 rfl
      subst h5'
      obtain ⟨ok2, b2, E2, e2, j1, j2, j3, j4, j5⟩ := g30_4 n hl ih m (i + 1) (b + gcnt k) E' (by omega) h1 (by omega) (fun h => by have := hg h; omega)
      refine ⟨ok2, b2, E2, e2, j1, by omega, by omega, fun h => ⟨h4', j4 h⟩, fun h => by have := j5 h; omega⟩
theorem g30 : ∀ (n : T27) (b : Nat) (E : Sl Bool), (ls E).length = b → b + cnt n ≤ 100000 → Chk b (cnt n) (good n b) (gcnt n) (G68 (.e n true (b : Int) E)) := by
  intro n
  induction n using tree_ind with
  | h n ih =>
    intro b E hE hb
    have hc := cnt_eq n
    have hkl := cntl_len (ls n.Kids)
    rw [G68.eq_1, if_pos rfl, f31, sm, G68.eq_2, good_eq, gcnt_eq]
    unfold goodp
    cases hp : pl n with
    | false =>
      rw [if_pos (show (!false) = true from rfl)]
      exact ⟨false, b, E, rfl, hE, by omega, by omega, fun h => (by cases h), fun h => by cases h⟩
    | true =>
      have h4 := fun (b : Nat) (E : Sl Bool) (h1 : (ls E).length = b) (h2 : b + cntl ((ls n.Kids).drop 0) ≤ 100000) (h3 : n.Kind = 6 → 1 ≤ n.Group ∧ n.Group ≤ (b : Int)) => g30_4 n (by omega) ih (ls n.Kids).length 0 b E (by omega) h1 h2 h3
      rw [List.drop_zero] at h4
      have h3f : ∀ (b' : Int) (E : Sl Bool), G68 (.p3 n false b' E) = some (false, b', E) := fun b' E => by
        rw [G68.eq_4]
        exact p4_no n (by omega) b' E (ls n.Kids).length 0 (by omega)
      rw [if_neg (show ¬ (!true) = true by simp)]
      by_cases h6 : n.Kind = 6
      · rw [eti h6, wn1 b (by omega), if_pos h6]
        have hgrow : ∀ ok : Bool, G68 (.p2 n ok ((b + 1 : Nat) : Int) E) = G68 (.p3 n ok ((b + 1 : Nat) : Int) (sapp E (ls (some [false])))) := fun ok => by
          rw [G68.eq_3, if_pos (by simp [ls] at hE ⊢; omega)]
        have hE1 : (ls (sapp E (ls (some [false])))).length = b + 1 := by rw [ls_sapp1]; simp [hE]
        by_cases hg : n.Group = ((b + 1 : Nat) : Int)
        · rw [eti hg, hgrow]
          by_cases h99 : b + 1 ≤ 99
          · rw [decide_eq_true (by omega), G68.eq_4]
            obtain ⟨ok, b', E', e, j1, j2, j3, j4, j5⟩ := h4 (b + 1) _ hE1 (by omega) (fun _ => by omega)
            exact ⟨ok, b', E', e, j1, by omega, by omega, fun h => ⟨⟨rfl, fun _ => ⟨by omega, h99⟩, fun h7 => by omega⟩, j4 h⟩, fun h => by have := j5 h; omega⟩
          · rw [decide_eq_false (by omega), h3f]
            exact ⟨false, b + 1, _, rfl, hE1, by omega, by omega, fun h => (by cases h), fun h => by cases h⟩
        · rw [efi hg, hgrow, h3f]
          exact ⟨false, b + 1, _, rfl, hE1, by omega, by omega, fun h => (by cases h), fun h => by cases h⟩
      · rw [efi h6, if_neg h6, Nat.zero_add, Nat.add_zero]
        have no : ∀ P gc, Chk b (cnt n) P gc (G68 (.p3 n false (b : Int) E)) := fun P gc => by
          rw [h3f]; exact ⟨false, b, E, rfl, hE, by omega, by omega, fun h => (by cases h), fun h => by cases h⟩
        have yes : (n.Kind = 7 → 1 ≤ n.Group ∧ n.Group ≤ 9 ∧ n.Group ≤ (b : Int)) → Chk b (cnt n) ((true = true ∧ (n.Kind = 6 → n.Group = (b : Int) + 1 ∧ b + 1 ≤ 99) ∧ (n.Kind = 7 → 1 ≤ n.Group ∧ n.Group ≤ 9 ∧ n.Group ≤ (b : Int))) ∧ goodl (ls n.Kids) b) (gcntl (ls n.Kids)) (G68 (.p3 n true (b : Int) E)) := by
          intro hok
          rw [G68.eq_4]
          obtain ⟨ok, b', E', e, j1, j2, j3, j4, j5⟩ := h4 b E hE (by omega) (fun h => absurd h h6)
          exact ⟨ok, b', E', e, j1, by omega, by omega, fun h => ⟨⟨rfl, fun h => absurd h h6, hok⟩, j4 h⟩, fun h => by have := j5 h; omega⟩
        by_cases h7 : n.Kind = 7
        · rw [eti h7]
          by_cases k1 : n.Group ≥ 1
          · rw [dti k1]
            by_cases k2 : n.Group ≤ 9
            · rw [dti k2]
              by_cases k3 : n.Group ≤ (b : Int)
              · rw [dti k3]
                obtain ⟨g, hgn⟩ : ∃ g : Nat, n.Group - 1 = g := ⟨(n.Group - 1).toNat, by omega⟩
                obtain ⟨v, hv⟩ := get_ex (ls E) (i := g) (by omega)
                rw [wi _ (by omega) (by omega), hgn, ixs hv, sm]
                cases v with
                | false => exact no _ _
                | true => exact yes fun _ => ⟨k1, k2, k3⟩
              · rw [dfi k3]; exact no _ _
            · rw [dfi k2]; exact no _ _
          · rw [dfi k1]; exact no _ _
        · rw [efi h7]; exact yes fun h => absurd h h7
theorem f12 (n : T27) : ∃ r : Int, F50 n = some r ∧ (r = 0 → good n 0 ∧ cnt n ≤ 8192) := by
  unfold F50 F53
  rw [sm, G50.eq_1, f40, sm]
  by_cases h : cnt n ≤ 8192
  · rw [if_pos h, if_pos rfl]
    obtain ⟨ok, b', E', e, h1, h2, h3, h4, h5⟩ := g30 n 0 none (by simp [ls]) (by omega)
    have e' : F68 n true 0 none = some (ok, (b' : Int), E') := e
    rw [e', sm]
    cases ok with
    | false => exact ⟨90, rfl, fun h => by cases h⟩
    | true => exact ⟨0, rfl, fun _ => ⟨h4 rfl, h⟩⟩
  · rw [if_neg h]
    exact ⟨3, rfl, fun h => by cases h⟩
end Go.Proofs.YtcidnoghoifmmaaDoor
end
section
/-
  Nfa: the groups of a tree, and how many instructions it has.
-/

namespace Go.Proofs.YtcidnoghoifmmaaDoor
open Go AW
set_option linter.unusedVariables false
set_option linter.unusedSimpArgs false
set_option maxHeartbeats 4000000
theorem nat_of' {z : Int} (h : 0 ≤ z) : ∃ n : Nat, z = n := ⟨z.toNat, by omega⟩
theorem b28 (a : Int) (t x : T27) (c : Nat) (hc : c ≤ 100000) : B36_1 a t x ((c : Int), 0) = some (true, (((c + if x.Kind = 6 then 1 else 0 : Nat) : Int), 0)) := by
  unfold B36_1
  simp only
  rw [if_pos trivial]
  by_cases h : x.Kind = 6
  · rw [eti h, wn1 c (by omega), if_pos h]
  · rw [efi h, if_neg h]; rfl
theorem gcnt_le : ∀ n : T27, gcnt n ≤ cnt n := by
  intro n
  induction n using tree_ind with
  | h n ih =>
    rw [gcnt_eq, cnt_eq]
    have : ∀ l : List T27, (∀ k ∈ l, gcnt k ≤ cnt k) → gcntl l ≤ cntl l := by
      intro l
      induction l with
      | nil => intro _; rw [gcntl, cntl]; omega
      | cons x l ihl => intro h; have := h x (by simp); have := ihl fun k hk => h k (by simp [hk]); rw [gcntl, cntl]; omega
    have := this _ ih
    split <;> omega
theorem g41b_1 (a : Int) (t : T27) (n : T27) (hl : (ls n.Kids).length ≤ 100000) (hn : ∀ k ∈ ls n.Kids, ∀ (c : Nat), c + cnt k ≤ 100000 → G82 (B36_1 a t) (.e k ((c : Int), 0)) = some (true, (((c + gcnt k : Nat) : Int), 0))) :
    ∀ (m i c : Nat), m + i = (ls n.Kids).length → c + cntl ((ls n.Kids).drop i) ≤ 100000 → G82 (B36_1 a t) (.p1 n ((ls n.Kids).length : Int) (i : Int) ((c : Int), 0)) = some (true, (((c + gcntl ((ls n.Kids).drop i) : Nat) : Int), 0))
  | 0, i, c, h, hc => by
    rw [G82.eq_2, dfi (by omega), List.drop_of_length_le (by omega), gcntl, Nat.add_zero]
  | m + 1, i, c, h, hc => by
    obtain ⟨k, hk⟩ := get_ex (ls n.Kids) (i := i) (by omega)
    have hd := cntl_drop hk
    have hg := gcnt_le k
    rw [G82.eq_2, dti (by omega), ixs hk, sm, hn k (List.mem_of_getElem? hk) c (by omega), sm]
    simp only [Bool.not_true, Bool.false_eq_true, if_false]
    rw [wn1 i (by omega), g41b_1 a t n hl hn m (i + 1) (c + gcnt k) (by omega) (by omega), drop_cons hk, gcntl, Nat.add_assoc]
theorem g41b (a : Int) (t : T27) : ∀ (n : T27) (c : Nat), c + cnt n ≤ 100000 → G82 (B36_1 a t) (.e n ((c : Int), 0)) = some (true, (((c + gcnt n : Nat) : Int), 0)) := by
  intro n
  induction n using tree_ind with
  | h n ih =>
    intro c hc
    have he := cnt_eq n
    have hl := cntl_len (ls n.Kids)
    rw [G82.eq_1, b28 a t n c (by omega), sm]
    simp only [Bool.not_true, Bool.false_eq_true, if_false]
    have := g41b_1 a t n (by omega) ih (ls n.Kids).length 0 (c + if n.Kind = 6 then 1 else 0) (by omega) (by rw [List.drop_zero]; split <;> omega)
    have this' : G82 (B36_1 a t) (.p1 n ((ls n.Kids).length : Int) 0 (((c + if n.Kind = 6 then 1 else 0 : Nat) : Int), 0)) = _ := this
    rw [this', List.drop_zero, gcnt_eq, Nat.add_assoc]
theorem f28 (n : T27) (h : cnt n ≤ 8192) : F36 n = some (gcnt n : Int) := by
  unfold F36 F53
  rw [sm, G36.eq_1]
  unfold F81 F82
  have := g41b 0 n n 0 (by omega)
  have this' : G82 (B36_1 0 n) (.e n (0, 0)) = _ := this
  rw [this', sm, sm, if_pos rfl, Nat.zero_add]

def glo (b m : Nat) : Int := if m = 0 then 0 else (b : Int) + 1
def ghi (b m : Nat) : Int := if m = 0 then 0 else (b : Int) + m
theorem g38_2 (n : T27) (ih : ∀ k ∈ ls n.Kids, ∀ b : Nat, good k b → G71 (.e k) = some (glo b (gcnt k), ghi b (gcnt k))) (b : Nat) (hl : (ls n.Kids).length ≤ 100000) :
    ∀ (q i m : Nat), q + i = (ls n.Kids).length → goodl ((ls n.Kids).drop i) (b + m) → G71 (.p2 (glo b m) (ghi b m) n.Kids ((ls n.Kids).length : Int) (i : Int)) = some (glo b (m + gcntl ((ls n.Kids).drop i)), ghi b (m + gcntl ((ls n.Kids).drop i)))
  | 0, i, m, h, hg => by
    rw [G71.eq_3, dfi (by omega), List.drop_of_length_le (by omega), gcntl]; rfl
  | q + 1, i, m, h, hg => by
    obtain ⟨k, hk⟩ := get_ex (ls n.Kids) (i := i) (by omega)
    rw [drop_cons hk, goodl] at hg
    have step := g38_2 n ih b hl q (i + 1) (m + gcnt k) (by omega) (by rw [← Nat.add_assoc]; exact hg.2)
    have fin : G71 (.p2 (glo b (m + gcnt k)) (ghi b (m + gcnt k)) n.Kids ((ls n.Kids).length : Int) (IntKind.wrap .i64 ((i : Int) + 1))) = some (glo b (m + gcntl ((ls n.Kids).drop i)), ghi b (m + gcntl ((ls n.Kids).drop i))) := by
      rw [wn1 i (by omega), step, drop_cons hk, gcntl, Nat.add_assoc]
    rw [G71.eq_3, dti (by omega), ixs hk, sm, ih k (List.mem_of_getElem? hk) _ hg.1, sm]
    simp only [G71.eq_4]
    generalize gcnt k = g at *
    by_cases h0 : g = 0
    · subst h0
      rw [dfi (by simp [glo])]
      have : ghi (b + m) 0 = 0 := rfl
      rw [this, if_neg (by unfold ghi; split <;> omega)]
      exact fin
    · rw [dti (by simp only [glo, if_neg h0]; omega)]
      by_cases hm : m = 0
      · subst hm
        rw [eti (by rfl)]
        have e1 : glo (b + 0) g = glo b (0 + g) := by simp [glo]
        have e2 : (if ghi (b + 0) g > ghi b 0 then ghi (b + 0) g else ghi b 0) = ghi b (0 + g) := by
          have : ghi b 0 = 0 := rfl
          rw [this, Nat.zero_add, Nat.add_zero]; unfold ghi; rw [if_neg h0, if_pos (by omega)]
        rw [e1, e2]
        exact fin
      · rw [efi (by simp only [glo, if_neg hm]; omega), dfi (by simp only [glo, if_neg hm, if_neg h0]; omega)]
        have e1 : glo b m = glo b (m + g) := by simp [glo, hm]
        have e2 : (if ghi (b + m) g > ghi b m then ghi (b + m) g else ghi b m) = ghi b (m + g) := by
          unfold ghi; rw [if_neg h0, if_neg hm, if_neg (by omega : ¬ m + g = 0), if_pos (by omega)]; omega
        rw [e2, e1]
        exact fin
theorem g38 : ∀ (n : T27) (b : Nat), cnt n ≤ 100000 → good n b → G71 (.e n) = some (glo b (gcnt n), ghi b (gcnt n)) := by
  intro n
  induction n using tree_ind with
  | h n ih =>
    intro b hc hg
    have he := cnt_eq n
    have hl := cntl_len (ls n.Kids)
    rw [good_eq] at hg
    have ih' : ∀ k ∈ ls n.Kids, ∀ b : Nat, good k b → G71 (.e k) = some (glo b (gcnt k), ghi b (gcnt k)) := fun k hk b h => ih k hk b (by have := cnt_kid hk; omega) h
    rw [G71.eq_1, gcnt_eq]
    by_cases h6 : n.Kind = 6
    · obtain ⟨e, _⟩ := hg.1.2.1 h6
      rw [eti h6, if_pos h6, G71.eq_2]
      have := g38_2 n ih' b (by omega) (ls n.Kids).length 0 1 (by omega) (by rw [List.drop_zero]; simpa [h6] using hg.2)
      have e1 : glo b 1 = n.Group := by rw [e]; rfl
      have e2 : ghi b 1 = n.Group := by rw [e]; rfl
      rw [e1, e2, List.drop_zero] at this
      exact this
    · rw [efi h6, if_neg h6, G71.eq_2]
      have := g38_2 n ih' b (by omega) (ls n.Kids).length 0 0 (by omega) (by rw [List.drop_zero]; simpa [h6] using hg.2)
      rw [List.drop_zero] at this
      exact this

mutual
def sz : T27 → Nat
  | ⟨k, _, mn, mx, _, o⟩ =>
    if k = 1 then 0 else if k = 3 then szo o else if k = 4 then szo o + 2 * ((ls o).length - 1) else if k = 6 then szo o + 2
    else if k = 5 then mn.toNat * (szo o + if gcnto o = 0 then 0 else 1) + (if mx = -1 then (szo o + if gcnto o = 0 then 0 else 1) + 4 else (mx - mn).toNat * ((szo o + if gcnto o = 0 then 0 else 1) + 3)) else 1
def szo : Option (List T27) → Nat
  | none => 0
  | some l => szl l
def szl : List T27 → Nat
  | [] => 0
  | x :: l => sz x + szl l
end
def rsz (k : T27) : Nat := sz k + if gcnt k = 0 then 0 else 1
theorem sz_eq (n : T27) : sz n = if n.Kind = 1 then 0 else if n.Kind = 3 then szl (ls n.Kids) else if n.Kind = 4 then szl (ls n.Kids) + 2 * ((ls n.Kids).length - 1) else if n.Kind = 6 then szl (ls n.Kids) + 2
    else if n.Kind = 5 then n.Min.toNat * (szl (ls n.Kids) + if gcntl (ls n.Kids) = 0 then 0 else 1) + (if n.Max = -1 then (szl (ls n.Kids) + if gcntl (ls n.Kids) = 0 then 0 else 1) + 4 else (n.Max - n.Min).toNat * ((szl (ls n.Kids) + if gcntl (ls n.Kids) = 0 then 0 else 1) + 3)) else 1 := by
  obtain ⟨_, _, _, _, _, o⟩ := n
  rw [sz]
  cases o with
  | none => rfl
  | some l => rfl
def cap (x : Nat) : Nat := min x 16385
theorem cap_le (x : Nat) : cap x ≤ 16385 := by unfold cap; omega
theorem cap_add (x y : Nat) : cap (cap x + cap y) = cap (x + y) := by unfold cap; omega
theorem cap_add1 (x y : Nat) : cap (cap x + y) = cap (x + y) := by unfold cap; omega
theorem cap_add2 (x y : Nat) : cap (x + cap y) = cap (x + y) := by unfold cap; omega
theorem cap_mul (m r : Nat) : cap (m * cap r) = cap (m * r) := by
  by_cases h : r ≤ 16385
  · have : cap r = r := by unfold cap; omega
    rw [this]
  · have h1 : cap r = 16385 := by unfold cap; omega
    rw [h1]
    cases m with
    | zero => simp
    | succ m =>
      have h2 : 16385 ≤ (m + 1) * 16385 := Nat.le_mul_of_pos_left _ (by omega)
      have h3 : r ≤ (m + 1) * r := Nat.le_mul_of_pos_left _ (by omega)
      unfold cap
      omega
theorem cap_mul3 (m r : Nat) : cap (m * (cap r + 3)) = cap (m * (r + 3)) := by
  have h1 := cap_mul m (r + 3)
  have h2 := cap_mul m (cap r + 3)
  rw [← h2, cap_add1, h1]
theorem f37 (x q : Nat) (hx : x ≤ 100000000) (hq : q ≤ 100000000) : F70 (x : Int) (q : Int) = some (cap (q + x) : Int) := by
  unfold F70 cap
  rw [wi _ (by omega) (by omega)]
  split <;> exact congrArg some (by omega)
theorem if37 (x : Nat) (h : x ≤ 100000000) : (if 16385 < IntKind.wrap .i64 ((x : Int) + 1) then 16385 else IntKind.wrap .i64 ((x : Int) + 1)) = ((cap (x + 1) : Nat) : Int) := by
  rw [wn1 x (by omega)]
  unfold cap
  split <;> omega
theorem f37' {x q : Int} (m k : Nat) (hx : x = m) (hq : q = k) (h1 : m ≤ 100000000) (h2 : k ≤ 100000000) : F70 x q = some (cap (k + m) : Int) := by subst hx; subst hq; exact f37 m k h1 h2
theorem goodl_mem : ∀ {l : List T27} {b : Nat} {k : T27}, goodl l b → k ∈ l → ∃ b', good k b'
  | [], b, k, _, h => by simp at h
  | x :: l, b, k, hg, h => by
    rw [goodl] at hg
    rcases List.mem_cons.1 h with rfl | h
    · exact ⟨_, hg.1⟩
    · exact goodl_mem hg.2 h
theorem g25_3 (n : T27) (hl : (ls n.Kids).length ≤ 100000) (ih : ∀ k ∈ ls n.Kids, G51 (.e k) = some (cap (sz k) : Int)) :
    ∀ (m i a : Nat), m + i = (ls n.Kids).length → G51 (.p3 n n.Kids ((ls n.Kids).length : Int) (i : Int) (cap a : Int)) = (if n.Kind = 4 then F70 (IntKind.wrap .i64 (2 * (IntKind.wrap .i64 (((ls n.Kids).length : Int) - 1)))) (cap (a + szl ((ls n.Kids).drop i)) : Int) >>= fun r => G51 (.p4 n r) else G51 (.p4 n (cap (a + szl ((ls n.Kids).drop i)) : Int)))
  | 0, i, a, h => by
    rw [G51.eq_4, dfi (by omega), List.drop_of_length_le (by omega), szl, Nat.add_zero]
    by_cases h4 : n.Kind = 4
    · rw [eti h4, if_pos h4]
    · rw [efi h4, if_neg h4]
  | m + 1, i, a, h => by
    obtain ⟨k, hk⟩ := get_ex (ls n.Kids) (i := i) (by omega)
    have c1 := cap_le (sz k)
    have c2 := cap_le a
    rw [G51.eq_4, dti (by omega), ixs hk, sm, ih k (List.mem_of_getElem? hk), sm, f37 _ _ (by omega) (by omega), sm, wn1 i (by omega), cap_add, g25_3 n hl ih m (i + 1) (a + sz k) (by omega), drop_cons hk, szl, Nat.add_assoc]
theorem g25 : ∀ (n : T27) (b : Nat), cnt n ≤ 100000 → good n b → G51 (.e n) = some (cap (sz n) : Int) := by
  intro n
  induction n using tree_ind with
  | h n ih =>
    intro b hc hg
    have he := cnt_eq n
    have hl := cntl_len (ls n.Kids)
    rw [good_eq] at hg
    have ih' : ∀ k ∈ ls n.Kids, G51 (.e k) = some (cap (sz k) : Int) := fun k hk => by
      obtain ⟨b', hb'⟩ := goodl_mem hg.2 hk
      exact ih k hk b' (by have := cnt_kid hk; omega) hb'
    have hp := hg.1.1
    have h3 := g25_3 n (by omega) ih' (ls n.Kids).length 0 0 (by omega)
    rw [List.drop_zero, Nat.zero_add] at h3
    have h3' := (G51.eq_2 n 0).trans h3
    have c1 := cap_le (szl (ls n.Kids))
    rw [G51.eq_1, sz_eq]
    by_cases k1 : n.Kind = 1
    · rw [eti k1, if_pos k1]; rfl
    rw [efi k1, if_neg k1]
    by_cases k3 : n.Kind = 3
    · rw [eti k3, if_pos k3, h3', if_neg (by omega), G51.eq_5, efi (by omega)]
    rw [efi k3, if_neg k3]
    by_cases k4 : n.Kind = 4
    · rw [eti k4, if_pos k4, h3', if_pos k4]
      have hk2 : 2 ≤ (ls n.Kids).length := by
        unfold pl at hp
        simp only [k4, or_true, if_true, Bool.and_eq_true, decide_eq_true_eq] at hp
        exact hp.1.1.1
      rw [wm1 _ (by omega) (by omega), wi _ (by omega) (by omega), f37' (2 * ((ls n.Kids).length - 1)) (cap (szl (ls n.Kids))) (by omega) rfl (by omega) (by omega), sm, cap_add1, G51.eq_5, efi (by omega)]
    rw [efi k4, if_neg k4]
    by_cases k6 : n.Kind = 6
    · rw [eti k6, if_pos k6, h3', if_neg (by omega), G51.eq_5, eti k6, f37' 2 (cap (szl (ls n.Kids))) (show (2 : Int) = ((2 : Nat) : Int) from rfl) rfl (by omega) (by omega), sm, cap_add1]
    rw [efi k6, if_neg k6]
    by_cases k5 : n.Kind = 5
    · rw [eti k5, if_pos k5]
      unfold pl at hp
      simp (config := {decide := true}) only [k5, or_self, if_false, if_true, Bool.and_eq_true, decide_eq_true_eq] at hp
      obtain ⟨⟨⟨⟨hmm, hk1⟩, _⟩, _⟩, _⟩ := hp
      obtain ⟨k, hk⟩ : ∃ k, ls n.Kids = [k] := List.length_eq_one_iff.1 hk1
      have hkm : k ∈ ls n.Kids := by simp [hk]
      obtain ⟨b', hb'⟩ := goodl_mem hg.2 hkm
      have hck := cnt_kid hkm
      have hix : ix (ls n.Kids) 0 = some k := by rw [hk]; rfl
      have e1 : szl (ls n.Kids) = sz k := by rw [hk, szl, szl]; rfl
      have e2 : gcntl (ls n.Kids) = gcnt k := by rw [hk, gcntl, gcntl]; rfl
      rw [hix, sm, ih' k hkm, sm, sm]
      unfold F71
      rw [g38 k b' (by omega) hb', sm, e1, e2]
      have fin : ∀ r : Nat, G51 (.p2 n (cap r : Int) 0) = some (cap (n.Min.toNat * r + if n.Max = -1 then r + 4 else (n.Max - n.Min).toNat * (r + 3)) : Int) := by
        intro r
        have c2 := cap_le r
        obtain ⟨mn, hmn⟩ := nat_of' hmm.1
        rw [G51.eq_3, hmn, Int.toNat_natCast]
        have hb1 : mn * cap r ≤ 255 * 16385 := Nat.mul_le_mul (by omega) c2
        rw [← Int.natCast_mul, wi _ (by omega) (by omega), f37' (mn * cap r) 0 rfl (show (0 : Int) = ((0 : Nat) : Int) from rfl) (by omega) (by omega), sm, Nat.zero_add, cap_mul]
        have c3 := cap_le (mn * r)
        by_cases hx : n.Max = -1
        · rw [eti hx, if_pos hx, wi _ (by omega) (by omega), f37' (cap r + 4) (cap (mn * r)) (by omega) rfl (by omega) (by omega), sm, cap_add1, ← Nat.add_assoc, Nat.add_comm _ (cap r), Nat.add_assoc, cap_add1]
          exact congrArg (fun x : Nat => some ((cap x : Nat) : Int)) (by omega)
        · obtain ⟨d, hd⟩ : ∃ d : Nat, n.Max - (mn : Int) = d := ⟨(n.Max - (mn : Int)).toNat, by omega⟩
          have hb2 : d * (cap r + 3) ≤ 255 * 16388 := Nat.mul_le_mul (by omega) (by omega)
          have e5 : (d : Int) * ((cap r : Int) + 3) = ((d * (cap r + 3) : Nat) : Int) := by rw [Int.natCast_mul, Int.natCast_add]; rfl
          rw [efi hx, if_neg hx, hd, Int.toNat_natCast, wi (d : Int) (by omega) (by omega), wi ((cap r : Int) + 3) (by omega) (by omega), e5, wi _ (by omega) (by omega), f37' (d * (cap r + 3)) (cap (mn * r)) rfl rfl (by omega) (by omega), sm, cap_add1, ← cap_add2, cap_mul3, cap_add2]
      by_cases hg0 : gcnt k = 0
      · rw [dfi (by simp [glo, hg0]), fin, if_pos hg0]; simp only [Nat.add_zero]
      · rw [dti (by simp only [glo, if_neg hg0]; omega), if37 _ (by have := cap_le (sz k); omega), cap_add1, fin, if_neg hg0]
    · rw [efi k5, if_neg k5]; rfl
theorem f9 (n : T27) : ∃ r : Int × Int, F33 n = some r ∧ (∃ w : Int, F50 n = some w ∧ (w ≠ 0 → r = (0, w)) ∧ (w = 0 → good n 0 ∧ cnt n ≤ 8192 ∧ r = if sz n < 16384 then (((sz n + 1 : Nat) : Int), 0) else (0, 3))) := by
  obtain ⟨w, hw, h⟩ := f12 n
  unfold F33
  rw [hw, sm]
  by_cases h0 : w = 0
  · obtain ⟨hg, hc⟩ := h h0
    subst h0
    rw [nfi rfl]
    unfold F51
    rw [g25 n 0 (by omega) hg, sm]
    by_cases hs : sz n < 16384
    · have : cap (sz n) = sz n := by unfold cap; omega
      rw [this, dti (by omega), wn1 _ (by omega)]
      exact ⟨_, rfl, 0, rfl, fun h => absurd rfl h, fun _ => ⟨hg, hc, by rw [if_pos hs]⟩⟩
    · have : 16384 ≤ cap (sz n) := by unfold cap; omega
      rw [dfi (by omega)]
      exact ⟨_, rfl, 0, rfl, fun h => absurd rfl h, fun _ => ⟨hg, hc, by rw [if_neg hs]⟩⟩
  · rw [nti h0]
    exact ⟨_, rfl, w, rfl, fun _ => rfl, fun h => absurd h h0⟩
end Go.Proofs.YtcidnoghoifmmaaDoor
end
section
/-
  Nfa: the program of a tree: what Compile lays out.
-/

namespace Go.Proofs.YtcidnoghoifmmaaDoor
open Go AW
set_option linter.unusedVariables false
set_option linter.unusedSimpArgs false
set_option maxHeartbeats 4000000
abbrev ik (k : Int) : T76 := { Kind := k, Set := Arr.rep 4 0, To := 0, Group := 0, Last := 0, Slot := 0 }
abbrev iTo (k t : Int) : T76 := { Kind := k, Set := Arr.rep 4 0, To := t, Group := 0, Last := 0, Slot := 0 }
abbrev iGr (k g : Int) : T76 := { Kind := k, Set := Arr.rep 4 0, To := 0, Group := g, Last := 0, Slot := 0 }
abbrev iCl (g l : Int) : T76 := { Kind := 6, Set := Arr.rep 4 0, To := 0, Group := g, Last := l, Slot := 0 }
abbrev iSl (k s : Int) : T76 := { Kind := k, Set := Arr.rep 4 0, To := 0, Group := 0, Last := 0, Slot := s }
abbrev iSet (s : Arr 4 Int) : T76 := { Kind := 1, Set := s, To := 0, Group := 0, Last := 0, Slot := 0 }
noncomputable def lh (k : T27) : Int × Int := (F71 k).getD (0, 0)
def clr (l : Int × Int) : List T76 := if l.1 > 0 then [iCl l.1 l.2] else []
def rnd (f : Nat → Nat → List T76) (l : Int × Int) (a fr : Nat) : List T76 := clr l ++ f (a + (clr l).length) fr
def frd (f : Nat → Nat → List T76) (l : Int × Int) (a fr : Nat) : List T76 := iSl 7 fr :: (rnd f l (a + 1) (fr + 1) ++ [iSl 8 fr])
def mins (f : Nat → Nat → List T76) (l : Int × Int) (r fr : Nat) : Nat → Nat → List T76
  | 0, _ => []
  | m + 1, a => rnd f l a fr ++ mins f l r fr m (a + r)
def opts (f : Nat → Nat → List T76) (l : Int × Int) (r fr : Nat) (e : Nat) : Nat → Nat → List T76
  | 0, _ => []
  | m + 1, a => iTo 2 e :: (frd f l (a + 1) fr ++ opts f l r fr e m (a + r + 3))
def repc (f : Nat → Nat → List T76) (l : Int × Int) (r : Nat) (mn mx : Int) (a fr : Nat) : List T76 :=
  mins f l r fr mn.toNat a ++
  if mx = -1 then iTo 2 ((a + mn.toNat * r + r + 4 : Nat) : Int) :: (frd f l (a + mn.toNat * r + 1) fr ++ [iTo 3 ((a + mn.toNat * r : Nat) : Int)])
  else opts f l r fr (a + mn.toNat * r + (mx - mn).toNat * (r + 3)) (mx - mn).toNat (a + mn.toNat * r)
mutual
noncomputable def cd : T27 → Nat → Nat → List T76
  | ⟨k, st, mn, mx, g, o⟩, a, fr =>
    if k = 1 then [] else if k = 2 then [iSet st] else if k = 3 then cdo o a fr else if k = 4 then alo o (a + szo o + 2 * ((ls o).length - 1)) a fr else if k = 5 then rpo o mn mx a fr
    else if k = 6 then iGr 4 g :: (cho o (a + 1) fr ++ [iGr 5 g]) else if k = 7 then [iGr 9 g] else if k = 8 then [ik 10] else if k = 9 then [ik 11] else []
noncomputable def cdo : Option (List T27) → Nat → Nat → List T76
  | none, _, _ => []
  | some l, a, fr => cdl l a fr
noncomputable def cdl : List T27 → Nat → Nat → List T76
  | [], _, _ => []
  | x :: l, a, fr => cd x a fr ++ cdl l (a + sz x) fr
noncomputable def alo : Option (List T27) → Nat → Nat → Nat → List T76
  | none, _, _, _ => []
  | some l, e, a, fr => all l e a fr
noncomputable def all : List T27 → Nat → Nat → Nat → List T76
  | [], _, _, _ => []
  | x :: l, e, a, fr => if l.isEmpty then cd x a fr else iTo 2 ((a + sz x + 2 : Nat) : Int) :: (cd x (a + 1) fr ++ iTo 3 e :: all l e (a + sz x + 2) fr)
noncomputable def rpo : Option (List T27) → Int → Int → Nat → Nat → List T76
  | none, _, _, _, _ => []
  | some l, mn, mx, a, fr => rpl l mn mx a fr
noncomputable def rpl : List T27 → Int → Int → Nat → Nat → List T76
  | [], _, _, _, _ => []
  | x :: _, mn, mx, a, fr => repc (cd x) (lh x) (rsz x) mn mx a fr
noncomputable def cho : Option (List T27) → Nat → Nat → List T76
  | none, _, _ => []
  | some l, a, fr => chl l a fr
noncomputable def chl : List T27 → Nat → Nat → List T76
  | [], _, _ => []
  | x :: _, a, fr => cd x a fr
end
theorem cd_eq (n : T27) (a fr : Nat) : cd n a fr = if n.Kind = 1 then [] else if n.Kind = 2 then [iSet n.Set] else if n.Kind = 3 then cdl (ls n.Kids) a fr else if n.Kind = 4 then all (ls n.Kids) (a + szl (ls n.Kids) + 2 * ((ls n.Kids).length - 1)) a fr else if n.Kind = 5 then rpl (ls n.Kids) n.Min n.Max a fr
    else if n.Kind = 6 then iGr 4 n.Group :: (chl (ls n.Kids) (a + 1) fr ++ [iGr 5 n.Group]) else if n.Kind = 7 then [iGr 9 n.Group] else if n.Kind = 8 then [ik 10] else if n.Kind = 9 then [ik 11] else [] := by
  obtain ⟨k, st, mn, mx, g, o⟩ := n
  rw [cd]
  cases o with
  | none => rfl
  | some l => rfl
mutual
def dep : T27 → Nat
  | ⟨k, _, mn, mx, _, o⟩ => if k = 5 then (if mx = -1 ∨ mn < mx then depo o + 1 else if 0 < mn then depo o else 0) else depo o
def depo : Option (List T27) → Nat
  | none => 0
  | some l => depl l
def depl : List T27 → Nat
  | [] => 0
  | x :: l => max (dep x) (depl l)
end
theorem dep_eq (n : T27) : dep n = if n.Kind = 5 then (if n.Max = -1 ∨ n.Min < n.Max then depl (ls n.Kids) + 1 else if 0 < n.Min then depl (ls n.Kids) else 0) else depl (ls n.Kids) := by
  obtain ⟨_, _, _, _, _, o⟩ := n
  rw [dep]
  cases o with
  | none => rfl
  | some l => rfl
theorem pl_kids {n : T27} (h : pl n = true) : (n.Kind = 3 ∨ n.Kind = 4) ∧ 2 ≤ (ls n.Kids).length ∨ n.Kind = 5 ∧ (0 ≤ n.Min ∧ n.Min ≤ 255 ∧ (n.Max = -1 ∨ n.Min ≤ n.Max ∧ n.Max ≤ 255)) ∧ (ls n.Kids).length = 1 ∨ n.Kind = 6 ∧ (ls n.Kids).length = 1 ∨ (n.Kind = 1 ∨ n.Kind = 2 ∨ n.Kind = 7 ∨ n.Kind = 8 ∨ n.Kind = 9) ∧ (ls n.Kids).length = 0 := by
  unfold pl at h
  simp only [Bool.and_eq_true] at h
  have h1 := h.1.1.1
  split at h1
  · exact .inl ⟨by assumption, by simpa using h1⟩
  · split at h1
    · simp only [Bool.and_eq_true, decide_eq_true_eq] at h1
      exact .inr (.inl ⟨by assumption, h1⟩)
    · split at h1
      · exact .inr (.inr (.inl ⟨by assumption, by simpa using h1⟩))
      · split at h1
        · exact .inr (.inr (.inr ⟨by assumption, by simpa using h1⟩))
        · cases h1
theorem f38 {k : T27} {b : Nat} (hc : cnt k ≤ 100000) (h : good k b) : F71 k = some (lh k) ∧ lh k = (glo b (gcnt k), ghi b (gcnt k)) := by
  have : F71 k = some (glo b (gcnt k), ghi b (gcnt k)) := g38 k b hc h
  unfold lh
  rw [this]
  exact ⟨rfl, rfl⟩
theorem clr_len {k : T27} {b : Nat} (hc : cnt k ≤ 100000) (h : good k b) : (clr (lh k)).length = if gcnt k = 0 then 0 else 1 := by
  rw [(f38 hc h).2]
  unfold clr glo
  by_cases h0 : gcnt k = 0
  · simp [h0]
  · rw [if_neg h0, if_neg h0, if_pos (show (b : Int) + 1 > 0 by omega)]; rfl
theorem rnd_len {f : Nat → Nat → List T76} {l : Int × Int} {s : Nat} (hf : ∀ a fr, (f a fr).length = s) (a fr : Nat) : (rnd f l a fr).length = s + (clr l).length := by
  unfold rnd; rw [List.length_append, hf]; omega
theorem frd_len {f : Nat → Nat → List T76} {l : Int × Int} {s : Nat} (hf : ∀ a fr, (f a fr).length = s) (a fr : Nat) : (frd f l a fr).length = s + (clr l).length + 2 := by
  unfold frd; rw [List.length_cons, List.length_append, rnd_len hf]; simp
theorem mins_len {f : Nat → Nat → List T76} {l : Int × Int} {s : Nat} (hf : ∀ a fr, (f a fr).length = s) (r fr : Nat) (hr : r = s + (clr l).length) : ∀ m a, (mins f l r fr m a).length = m * r
  | 0, a => by simp [mins]
  | m + 1, a => by rw [mins, List.length_append, rnd_len hf, mins_len hf r fr hr m, Nat.add_mul, ← hr]; omega
theorem opts_len {f : Nat → Nat → List T76} {l : Int × Int} {s : Nat} (hf : ∀ a fr, (f a fr).length = s) (r fr e : Nat) (hr : r = s + (clr l).length) : ∀ m a, (opts f l r fr e m a).length = m * (r + 3)
  | 0, a => by simp [opts]
  | m + 1, a => by rw [opts, List.length_cons, List.length_append, frd_len hf, opts_len hf r fr e hr m, Nat.add_mul, ← hr]; omega
theorem repc_len {f : Nat → Nat → List T76} {l : Int × Int} {s : Nat} (hf : ∀ a fr, (f a fr).length = s) (r : Nat) (hr : r = s + (clr l).length) (mn mx : Int) (a fr : Nat) : (repc f l r mn mx a fr).length = mn.toNat * r + if mx = -1 then r + 4 else (mx - mn).toNat * (r + 3) := by
  unfold repc
  rw [List.length_append, mins_len hf r fr hr]
  split
  · rw [List.length_cons, List.length_append, frd_len hf, ← hr]; simp
  · rw [opts_len hf r fr _ hr]
theorem cdl_len : ∀ (l : List T27), (∀ k ∈ l, ∀ a fr, (cd k a fr).length = sz k) → ∀ a fr, (cdl l a fr).length = szl l
  | [], _, a, fr => by rw [cdl, szl]; rfl
  | x :: l, h, a, fr => by rw [cdl, szl, List.length_append, h x (by simp), cdl_len l fun k hk => h k (by simp [hk])]
theorem all_len : ∀ (l : List T27), (∀ k ∈ l, ∀ a fr, (cd k a fr).length = sz k) → ∀ e a fr, (all l e a fr).length = szl l + 2 * (l.length - 1)
  | [], _, e, a, fr => by rw [all, szl]; rfl
  | [x], h, e, a, fr => by rw [all, if_pos (show ([] : List T27).isEmpty = true from rfl), szl, szl, h x (by simp)]; simp
  | x :: y :: l, h, e, a, fr => by
    have e1 : szl (x :: y :: l) = sz x + szl (y :: l) := by rw [szl]
    rw [all, if_neg (by simp), List.length_cons, List.length_append, List.length_cons, h x (by simp), all_len (y :: l) (fun k hk => h k (by simp at hk ⊢; right; exact hk)), e1]
    simp; omega
theorem cd_len : ∀ (n : T27) (b : Nat), cnt n ≤ 100000 → good n b → ∀ a fr, (cd n a fr).length = sz n := by
  intro n
  induction n using tree_ind with
  | h n ih =>
    intro b hc hg a fr
    rw [good_eq] at hg
    have ih' : ∀ k ∈ ls n.Kids, ∀ a fr, (cd k a fr).length = sz k := fun k hk => by
      obtain ⟨b', hb'⟩ := goodl_mem hg.2 hk
      exact ih k hk b' (by have := cnt_kid hk; omega) hb'
    rw [cd_eq, sz_eq]
    rcases pl_kids hg.1.1 with ⟨h, hk⟩ | ⟨h, hm, hk⟩ | ⟨h, hk⟩ | ⟨h, hk⟩
    · rcases h with h | h
      · simp (config := {decide := true}) only [h, if_true, if_false]; exact cdl_len _ ih' _ _
      · simp (config := {decide := true}) only [h, if_true, if_false]; exact all_len _ ih' _ _ _
    · obtain ⟨k, hk⟩ : ∃ k, ls n.Kids = [k] := List.length_eq_one_iff.1 hk
      have hkm : k ∈ ls n.Kids := by simp [hk]
      obtain ⟨b', hb'⟩ := goodl_mem hg.2 hkm
      have hcl := clr_len (by have := cnt_kid hkm; omega) hb'
      simp (config := {decide := true}) only [h, if_true, if_false]
      rw [hk, rpl, repc_len (s := sz k) (ih' k hkm) _ (by rw [hcl]; rfl)]
      have e1 : szl [k] = sz k := by rw [szl, szl]; rfl
      have e2 : gcntl [k] = gcnt k := by rw [gcntl, gcntl]; rfl
      rw [e1, e2]; rfl
    · obtain ⟨k, hk⟩ : ∃ k, ls n.Kids = [k] := List.length_eq_one_iff.1 hk
      have hkm : k ∈ ls n.Kids := by simp [hk]
      simp (config := {decide := true}) only [h, if_true, if_false]
      have e1 : szl [k] = sz k := by rw [szl, szl]; rfl
      rw [hk, chl, List.length_cons, List.length_append, ih' k hkm, e1]; simp
    · rcases h with h | h | h | h | h <;> simp (config := {decide := true}) only [h, if_true, if_false, List.length_cons, List.length_nil]
end Go.Proofs.YtcidnoghoifmmaaDoor
end
section
/-
  Nfa: Compile lays out just the program of the tree.
-/

namespace Go.Proofs.YtcidnoghoifmmaaDoor
open Go AW
set_option linter.unusedVariables false
set_option linter.unusedSimpArgs false
set_option maxHeartbeats 4000000
def intz (L : List Nat) : List Int := L.map fun (n : Nat) => (n : Int)
theorem intz_len (L : List Nat) : (intz L).length = L.length := by simp [intz]
def Co (L : List T76) (s fr : Nat) : T71 := { code := so L, slots := (s : Int), free := (fr : Int) }
theorem co_code (L : List T76) (s fr : Nat) : ls (Co L s fr).code = L := ls_so L
theorem vset_so {α : Type} (L : List α) (i : Nat) (v : α) : vset (so L) (i : Int) v = so (L.set i v) := by cases L <;> simp [so, vset] <;> cases i <;> rfl
theorem f27 (L : List T76) (s fr : Nat) (x : T76) (h : L.length ≤ 100000) : F35 (Co L s fr) x = some ((L.length : Int), Co (L ++ [x]) s fr) := by
  have e : ls (some [x]) = [x] := rfl
  unfold F35
  rw [co_code, if_pos (by rw [e]; simp; omega), e]
  have e2 : sapp (Co L s fr).code [x] = so (L ++ [x]) := sapp_so L [x]
  rw [e2, ls_so, List.length_append, List.length_singleton, wm1 _ (by omega) (by omega)]
  rfl
theorem set_mid {α : Type} (A B : List α) (x y : α) : (A ++ x :: B).set A.length y = A ++ y :: B := by simp
theorem get_mid {α : Type} (A B : List α) (x : α) : (A ++ x :: B)[A.length]? = some x := by simp
def Pn (n : T27) : Prop := ∀ (L : List T76) (s fr : Nat), L.length + sz n ≤ 16384 → fr ≤ L.length → fr ≤ s → G34r (.e34 (Co L s fr) n) = some (Co (L ++ cd n L.length fr) (max s (fr + dep n)) fr)
def Ln (n : T27) : Prop := ∀ a fr, (cd n a fr).length = sz n
theorem p51 (n : T27) (hl : (ls n.Kids).length ≤ 100000) (ih : ∀ k ∈ ls n.Kids, Pn k ∧ Ln k) : ∀ (m i : Nat) (L : List T76) (s fr : Nat), m + i = (ls n.Kids).length → L.length + szl ((ls n.Kids).drop i) ≤ 16384 → fr ≤ L.length → fr ≤ s →
    G34r (.p77_1 n.Kids ((ls n.Kids).length : Int) (i : Int) (Co L s fr)) = some (Co (L ++ cdl ((ls n.Kids).drop i) L.length fr) (max s (fr + depl ((ls n.Kids).drop i))) fr)
  | 0, i, L, s, fr, h, hs, hf, hfs => by
    rw [G34r.eq_3, dfi (by omega), List.drop_of_length_le (by omega), cdl, depl, List.append_nil, Nat.add_zero, Nat.max_eq_left hfs]
  | m + 1, i, L, s, fr, h, hs, hf, hfs => by
    obtain ⟨k, hk⟩ := get_ex (ls n.Kids) (i := i) (by omega)
    obtain ⟨pk, lk⟩ := ih k (List.mem_of_getElem? hk)
    rw [drop_cons hk, szl] at hs
    have hlk := lk L.length fr
    have hll : (L ++ cd k L.length fr).length = L.length + sz k := by rw [List.length_append, hlk]
    rw [G34r.eq_3, dti (by omega), ixs hk, sm, pk L s fr (by omega) hf hfs, sm, wn1 i (by omega), p51 n hl ih m (i + 1) _ _ fr (by omega) (by omega) (by omega) (by omega), drop_cons hk, cdl, depl, hll, List.append_assoc]
    have e : max (max s (fr + dep k)) (fr + depl ((ls n.Kids).drop (i + 1))) = max s (fr + max (dep k) (depl ((ls n.Kids).drop (i + 1)))) := by omega
    rw [e]
def pat (e : Nat) (C : List T76) (p : Nat) : List T76 := match C[p]? with
  | some x => C.set p { x with To := (e : Int) }
  | none => C
theorem pat_len (e : Nat) (C : List T76) (p : Nat) : (pat e C p).length = C.length := by unfold pat; split <;> simp
theorem pat_mid (e : Nat) (A B : List T76) (x : T76) : pat e (A ++ x :: B) A.length = A ++ { x with To := (e : Int) } :: B := by
  unfold pat; rw [get_mid]; simp only; rw [set_mid]
theorem pat_co {C : List T76} {p : Nat} {x : T76} (s fr : Nat) (h : C[p]? = some x) : ({ Co C s fr with code := (vset (Co C s fr).code (p : Int) ({ x with To := (C.length : Int) } : T76)) } : T71) = Co (pat C.length C p) s fr := by
  unfold pat; rw [h]; simp only [Co]; rw [vset_so]
theorem p53_2 (O : List Nat) (hO : O.length ≤ 1000000) : ∀ (m i : Nat) (C : List T76) (s fr : Nat), m + i = O.length → (∀ p ∈ O, p < C.length) →
    G34r (.p79_2 (so (intz O)) (O.length : Int) (i : Int) (Co C s fr)) = some (Co ((O.drop i).foldl (pat C.length) C) s fr)
  | 0, i, C, s, fr, h, hp => by
    rw [G34r.eq_7, dfi (by omega), List.drop_of_length_le (by omega)]; rfl
  | m + 1, i, C, s, fr, h, hp => by
    obtain ⟨p, hpi⟩ := get_ex O (i := i) (by omega)
    obtain ⟨x, hx⟩ := get_ex C (hp p (List.mem_of_getElem? hpi))
    rw [G34r.eq_7, dti (by omega), ls_so, ixs (c := (p : Int)) (by simp [intz, hpi]), sm, co_code, ixs hx, sm, pat_co s fr hx, wn1 i (by omega), p53_2 O hO m (i + 1) _ s fr (by omega) (by simpa [pat_len] using hp), pat_len, drop_cons hpi]; rfl
theorem p54_4 (O : List Nat) (hO : O.length ≤ 1000000) : ∀ (m i : Nat) (C : List T76) (s fr : Nat), m + i = O.length → (∀ p ∈ O, p < C.length) →
    G34r (.p80_4 (so (intz O)) (O.length : Int) (i : Int) (Co C s fr)) = some (Co ((O.drop i).foldl (pat C.length) C) s fr)
  | 0, i, C, s, fr, h, hp => by
    rw [G34r.eq_12, dfi (by omega), List.drop_of_length_le (by omega)]; rfl
  | m + 1, i, C, s, fr, h, hp => by
    obtain ⟨p, hpi⟩ := get_ex O (i := i) (by omega)
    obtain ⟨x, hx⟩ := get_ex C (hp p (List.mem_of_getElem? hpi))
    rw [G34r.eq_12, dti (by omega), ls_so, ixs (c := (p : Int)) (by simp [intz, hpi]), sm, co_code, ixs hx, sm, pat_co s fr hx, wn1 i (by omega), p54_4 O hO m (i + 1) _ s fr (by omega) (by simpa [pat_len] using hp), pat_len, drop_cons hpi]; rfl
noncomputable def alf : List T27 → Nat → Nat → Nat → List T76
  | [], _, _, _ => []
  | x :: l, e, a, fr => iTo 2 ((a + sz x + 2 : Nat) : Int) :: (cd x (a + 1) fr ++ iTo 3 e :: alf l e (a + sz x + 2) fr)
def jps : List T27 → Nat → List Nat
  | [], _ => []
  | x :: l, a => (a + sz x + 1) :: jps l (a + sz x + 2)
theorem jps_len : ∀ (l : List T27) a, (jps l a).length = l.length
  | [], _ => rfl
  | x :: l, a => by rw [jps, List.length_cons, jps_len l, List.length_cons]
theorem alf_len : ∀ (l : List T27), (∀ k ∈ l, Ln k) → ∀ e a fr, (alf l e a fr).length = szl l + 2 * l.length
  | [], _, e, a, fr => by rw [alf, szl]; rfl
  | x :: l, h, e, a, fr => by
    rw [alf, List.length_cons, List.length_append, List.length_cons, h x (by simp), alf_len l (fun k hk => h k (by simp [hk])), szl]
    simp; omega
theorem all_front : ∀ (l : List T27) (k : T27) (e a fr : Nat), all (l ++ [k]) e a fr = alf l e a fr ++ cd k (a + szl l + 2 * l.length) fr
  | [], k, e, a, fr => by
    rw [List.nil_append, all, if_pos (show ([] : List T27).isEmpty = true from rfl), alf, szl]; rfl
  | x :: l, k, e, a, fr => by
    rw [List.cons_append, all, if_neg (by simp), all_front l k, alf, szl]
    have e1 : a + sz x + 2 + szl l + 2 * l.length = a + (sz x + szl l) + 2 * (x :: l).length := by simp; omega
    rw [e1]; simp
theorem jps_lt : ∀ (l : List T27) (a : Nat), ∀ p ∈ jps l a, p < a + szl l + 2 * l.length
  | [], a, p, h => by simp [jps] at h
  | x :: l, a, p, h => by
    rw [jps] at h
    rw [szl, List.length_cons]
    rcases List.mem_cons.1 h with rfl | h
    · omega
    · have := jps_lt l _ p h; omega
theorem alf_pat (e e0 fr : Nat) : ∀ (l : List T27), (∀ k ∈ l, Ln k) → ∀ (A B : List T76), (jps l A.length).foldl (pat e) (A ++ (alf l e0 A.length fr ++ B)) = A ++ (alf l e A.length fr ++ B)
  | [], _, A, B => by rw [jps, alf, alf]; rfl
  | x :: l, h, A, B => by
    have hx := h x (by simp) (A.length + 1) fr
    rw [jps, alf, alf, List.foldl_cons]
    have e1 : A ++ (iTo 2 ((A.length + sz x + 2 : Nat) : Int) :: (cd x (A.length + 1) fr ++ iTo 3 e0 :: alf l e0 (A.length + sz x + 2) fr) ++ B) = (A ++ iTo 2 ((A.length + sz x + 2 : Nat) : Int) :: cd x (A.length + 1) fr) ++ iTo 3 e0 :: (alf l e0 (A.length + sz x + 2) fr ++ B) := by simp
    have e2 : A.length + sz x + 1 = (A ++ iTo 2 ((A.length + sz x + 2 : Nat) : Int) :: cd x (A.length + 1) fr).length := by simp [hx]; omega
    rw [e1, e2, pat_mid]
    have e3 : (A ++ iTo 2 ((A.length + sz x + 2 : Nat) : Int) :: cd x (A.length + 1) fr) ++ iTo 3 e :: (alf l e0 (A.length + sz x + 2) fr ++ B) = (A ++ iTo 2 ((A.length + sz x + 2 : Nat) : Int) :: (cd x (A.length + 1) fr ++ [iTo 3 e])) ++ (alf l e0 (A.length + sz x + 2) fr ++ B) := by simp
    have e4 : A.length + sz x + 2 = (A ++ iTo 2 ((A.length + sz x + 2 : Nat) : Int) :: (cd x (A.length + 1) fr ++ [iTo 3 e])).length := by simp [hx]; omega
    have ihh := alf_pat e e0 fr l (fun k hk => h k (by simp [hk])) (A ++ iTo 2 ((A.length + sz x + 2 : Nat) : Int) :: (cd x (A.length + 1) fr ++ [iTo 3 e])) B
    rw [← e4] at ihh
    have e5 : (({ iTo 3 e0 with To := (e : Int) } : T76)) = iTo 3 e := rfl
    rw [e5, e3, ihh]
    simp
theorem depl_app : ∀ (l : List T27) (k : T27), depl (l ++ [k]) = max (depl l) (dep k)
  | [], k => by simp [depl]
  | x :: l, k => by rw [List.cons_append, depl, depl_app l, depl]; omega
theorem szl_app : ∀ (l : List T27) (k : T27), szl (l ++ [k]) = szl l + sz k
  | [], k => by simp [szl]
  | x :: l, k => by rw [List.cons_append, szl, szl_app l, szl]; omega
theorem p53_1 (n : T27) (last : Int) (W : Sl T27) (F : List T27) (hW : ls W = F) (hl : F.length ≤ 100000) (ih : ∀ k ∈ F, Pn k ∧ Ln k) : ∀ (m i : Nat) (L : List T76) (s fr : Nat) (O : List Nat), m + i = F.length → L.length + szl (F.drop i) + 2 * (F.drop i).length ≤ 16384 → fr ≤ L.length → fr ≤ s → O.length ≤ i →
    G34r (.p79_1 n last W (F.length : Int) (i : Int) (Co L s fr) (so (intz O))) = (ix (ls n.Kids) last >>= fun v => G34r (.e34 (Co (L ++ alf (F.drop i) 0 L.length fr) (max s (fr + depl (F.drop i))) fr) v) >>= fun r => G34r (.p79_2 (so (intz (O ++ jps (F.drop i) L.length))) ((O ++ jps (F.drop i) L.length).length : Int) 0 r))
  | 0, i, L, s, fr, O, h, hs, hf, hfs, hO => by
    rw [G34r.eq_6, dfi (by omega), List.drop_of_length_le (by omega), alf, depl, jps, List.append_nil, List.append_nil, Nat.add_zero, Nat.max_eq_left hfs, ls_so, intz_len]
  | m + 1, i, L, s, fr, O, h, hs, hf, hfs, hO => by
    obtain ⟨k, hk⟩ := get_ex F (i := i) (by omega)
    obtain ⟨pk, lk⟩ := ih k (List.mem_of_getElem? hk)
    have hdl : (F.drop i).length = (F.drop (i + 1)).length + 1 := by rw [drop_cons hk, List.length_cons]
    rw [hdl, drop_cons hk, szl] at hs
    have h1 : (L ++ [ik 2]).length = L.length + 1 := by simp
    have h2 : (L ++ [ik 2] ++ cd k (L.length + 1) fr).length = L.length + 1 + sz k := by rw [List.length_append, h1, lk]
    have e0 : ls (some [((L.length + 1 + sz k : Nat) : Int)]) = intz [L.length + 1 + sz k] := rfl
    have e1 : (so (intz O) : Sl Int) = so (intz O) := rfl
    rw [G34r.eq_6, dti (by omega), hW, ixs hk, sm, f27 L s fr _ (by omega), sm, pk (L ++ [ik 2]) s fr (by rw [h1]; omega) (by rw [h1]; omega) hfs, sm, h1, f27 (L ++ [ik 2] ++ cd k (L.length + 1) fr) _ _ _ (by rw [h2]; omega), sm, h2]
    rw [if_pos (by rw [ls_so]; simp [intz, ls]; omega), co_code]
    have e2 : L ++ [ik 2] ++ cd k (L.length + 1) fr ++ [ik 3] = L ++ ik 2 :: (cd k (L.length + 1) fr ++ [ik 3]) := by simp
    have e3 : (L ++ ik 2 :: (cd k (L.length + 1) fr ++ [ik 3])).length = L.length + sz k + 2 := by rw [List.length_append, List.length_cons, List.length_append, lk]; simp; omega
    simp only [e2]
    rw [ixs (get_mid L _ (ik 2)), sm, pat_co _ _ (get_mid L _ (ik 2)), e3, pat_mid, e0, sapp_so, wn1 i (by omega)]
    have e4 : intz O ++ intz [L.length + 1 + sz k] = intz (O ++ [L.length + 1 + sz k]) := by simp [intz]
    have e5 : (({ ik 2 with To := ((L.length + sz k + 2 : Nat) : Int) } : T76)) = iTo 2 ((L.length + sz k + 2 : Nat) : Int) := rfl
    have e6 : (L ++ iTo 2 ((L.length + sz k + 2 : Nat) : Int) :: (cd k (L.length + 1) fr ++ [ik 3])).length = L.length + sz k + 2 := by rw [List.length_append, List.length_cons, List.length_append, lk]; simp; omega
    rw [e4, e5, p53_1 n last W F hW hl ih m (i + 1) _ _ fr _ (by omega) (by omega) (by omega) (by omega) (by simp; omega), drop_cons hk, alf, depl, jps, e6]
    have e7 : L ++ iTo 2 ((L.length + sz k + 2 : Nat) : Int) :: (cd k (L.length + 1) fr ++ [ik 3]) ++ alf (F.drop (i + 1)) 0 (L.length + sz k + 2) fr = L ++ iTo 2 ((L.length + sz k + 2 : Nat) : Int) :: (cd k (L.length + 1) fr ++ iTo 3 ((0 : Nat) : Int) :: alf (F.drop (i + 1)) 0 (L.length + sz k + 2) fr) := by simp
    have e8 : O ++ [L.length + 1 + sz k] ++ jps (F.drop (i + 1)) (L.length + sz k + 2) = O ++ (L.length + sz k + 1) :: jps (F.drop (i + 1)) (L.length + sz k + 2) := by simp; omega
    have e9 : max (max s (fr + dep k)) (fr + depl (F.drop (i + 1))) = max s (fr + max (dep k) (depl (F.drop (i + 1)))) := by omega
    rw [e7, e8, e9]
end Go.Proofs.YtcidnoghoifmmaaDoor
end
section
/-
  Nfa: Compile lays out just the program of the tree: repeats, and all together.
-/

namespace Go.Proofs.YtcidnoghoifmmaaDoor
open Go AW
set_option linter.unusedVariables false
set_option linter.unusedSimpArgs false
set_option maxHeartbeats 4000000
theorem co_up (L : List T76) (s fr : Nat) (h : fr < 100000) : ({ Co L s fr with free := IntKind.wrap .i64 ((Co L s fr).free + 1), slots := (if (IntKind.wrap .i64 ((Co L s fr).free + 1)) > (Co L s fr).slots then (IntKind.wrap .i64 ((Co L s fr).free + 1)) else (Co L s fr).slots) } : T71) = Co L (max s (fr + 1)) (fr + 1) := by
  show ({ code := so L, slots := (if (IntKind.wrap .i64 ((fr : Int) + 1)) > (s : Int) then (IntKind.wrap .i64 ((fr : Int) + 1)) else (s : Int)), free := IntKind.wrap .i64 ((fr : Int) + 1) } : T71) = _
  rw [wn1 fr (by omega)]
  have : (if ((fr + 1 : Nat) : Int) > (s : Int) then ((fr + 1 : Nat) : Int) else (s : Int)) = ((max s (fr + 1) : Nat) : Int) := by split <;> omega
  rw [this]
  rfl
theorem co_down (L : List T76) (s fr : Nat) (h : fr < 100000) : ({ Co L s (fr + 1) with free := IntKind.wrap .i64 ((Co L s (fr + 1)).free - 1) } : T71) = Co L s fr := by
  simp only [Co]
  rw [wm1 (fr + 1) (by omega) (by omega)]
  rfl
structure Kd (k : T27) : Prop where
  p : Pn k
  l : Ln k
  g : F71 k = some (lh k)
  c : (clr (lh k)).length = if gcnt k = 0 then 0 else 1
theorem clr_of {k : T27} (hk : Kd k) : sz k + (clr (lh k)).length = rsz k := by rw [hk.c]; rfl
theorem p59_1 {k : T27} (hk : Kd k) (free : Bool) (slot : Int) (L : List T76) (s fr : Nat) (h : L.length + rsz k ≤ 16384) :
    G34r (.p93_1 free k slot (Co L s fr)) = G34r (.p93_2 free k slot (Co (L ++ clr (lh k)) s fr)) := by
  rw [G34r.eq_14, hk.g, sm]
  unfold clr
  by_cases h0 : (lh k).1 > 0
  · rw [dti h0, f27 _ _ _ _ (by omega), sm, if_pos h0]
  · rw [dfi h0, if_neg h0, List.append_nil]
theorem p59_r {k : T27} (hk : Kd k) (L : List T76) (s fr : Nat) (h : L.length + rsz k ≤ 16384) (hf : fr ≤ L.length) (hfs : fr ≤ s) :
    G34r (.e93 (Co L s fr) k false) = some (Co (L ++ rnd (cd k) (lh k) L.length fr) (max s (fr + dep k)) fr) := by
  have hr := clr_of hk
  have hl : (L ++ clr (lh k)).length = L.length + (clr (lh k)).length := List.length_append
  rw [G34r.eq_13, if_neg (by simp), p59_1 hk _ _ _ _ _ h, G34r.eq_15, hk.p (L ++ clr (lh k)) s fr (by rw [hl]; omega) (by rw [hl]; omega) hfs, sm, if_neg (by simp), hl]
  unfold rnd
  rw [List.append_assoc]
theorem p59_f {k : T27} (hk : Kd k) (L : List T76) (s fr : Nat) (h : L.length + rsz k + 2 ≤ 16384) (hf : fr ≤ L.length) (hfs : fr ≤ s) :
    G34r (.e93 (Co L s fr) k true) = some (Co (L ++ frd (cd k) (lh k) L.length fr) (max s (fr + (dep k + 1))) fr) := by
  have hr := clr_of hk
  have h1 : (L ++ [iSl 7 fr]).length = L.length + 1 := by simp
  have hl : (L ++ [iSl 7 fr] ++ clr (lh k)).length = L.length + 1 + (clr (lh k)).length := by rw [List.length_append, h1]
  rw [G34r.eq_13, if_pos rfl, f27 _ _ _ _ (by omega), sm]
  have e1 := co_up (L ++ [iSl 7 fr]) s fr (by omega)
  refine Eq.trans (congrArg (fun c => G34r (.p93_1 true k (fr : Int) c)) e1) ?_
  rw [p59_1 hk _ _ _ _ _ (by rw [h1]; omega), G34r.eq_15, hk.p (L ++ [iSl 7 fr] ++ clr (lh k)) _ (fr + 1) (by rw [hl]; omega) (by rw [hl]; omega) (by omega), sm, if_pos rfl]
  have e2 := co_down (L ++ [iSl 7 fr] ++ clr (lh k) ++ cd k (L ++ [iSl 7 fr] ++ clr (lh k)).length (fr + 1)) (max (max s (fr + 1)) (fr + 1 + dep k)) fr (by omega)
  rw [e2, f27 _ _ _ _ (by rw [List.length_append, hk.l, hl]; omega), sm, hl]
  have e3 : max (max s (fr + 1)) (fr + 1 + dep k) = max s (fr + (dep k + 1)) := by omega
  rw [e3]
  unfold frd rnd
  simp
theorem len0 {f : Nat → Nat → List T76} {l : Int × Int} {s : Nat} (hf : ∀ a fr, (f a fr).length = s) (r fr : Nat) (hr : r = s + (clr l).length) (h0 : r = 0) (m a : Nat) : mins f l r fr m a = [] :=
  List.eq_nil_of_length_eq_zero (by rw [mins_len hf r fr hr, h0, Nat.mul_zero])
theorem p54_1 (n : T27) {k : T27} (hk : Kd k) (hks : ix (ls n.Kids) 0 = some k) (mn : Nat) (hmn : mn ≤ 255) : ∀ (m i : Nat) (L : List T76) (s fr : Nat), m + i = mn → L.length + m * rsz k ≤ 16384 → fr ≤ L.length → fr ≤ s →
    G34r (.p80_1 n (mn : Int) (i : Int) (Co L s fr)) = G34r (.p80_2 n (Co (L ++ mins (cd k) (lh k) (rsz k) fr m L.length) (if m = 0 then s else max s (fr + dep k)) fr))
  | 0, i, L, s, fr, h, hs, hf, hfs => by
    rw [G34r.eq_9, dfi (by omega), mins, List.append_nil, if_pos rfl]
  | m + 1, i, L, s, fr, h, hs, hf, hfs => by
    have hr := clr_of hk
    have hrl : (rnd (cd k) (lh k) L.length fr).length = rsz k := by rw [rnd_len hk.l]; exact hr
    rw [Nat.add_mul, Nat.one_mul] at hs
    rw [G34r.eq_9, dti (by omega), hks, sm, p59_r hk L s fr (by omega) hf hfs, sm, co_code, co_code, List.length_append, hrl]
    by_cases h0 : rsz k = 0
    · rw [eti (by omega), if_neg (by omega), mins, len0 hk.l (rsz k) fr hr.symm h0, List.append_nil]
    · rw [efi (by omega), wn1 i (by omega), p54_1 n hk hks mn hmn m (i + 1) _ _ fr (by omega) (by rw [List.length_append, hrl]; omega) (by rw [List.length_append]; omega) (by omega), mins, List.length_append, hrl, if_neg (by omega : ¬ m + 1 = 0), List.append_assoc]
      have e : (if m = 0 then max s (fr + dep k) else max (max s (fr + dep k)) (fr + dep k)) = max s (fr + dep k) := by split <;> omega
      rw [e]
def opp (r : Nat) : Nat → Nat → List Nat
  | 0, _ => []
  | m + 1, a => a :: opp r m (a + r + 3)
theorem opp_lt (r : Nat) : ∀ (m a : Nat), ∀ p ∈ opp r m a, p < a + m * (r + 3)
  | 0, a, p, h => by simp [opp] at h
  | m + 1, a, p, h => by
    rw [opp] at h
    rw [Nat.add_mul, Nat.one_mul]
    rcases List.mem_cons.1 h with rfl | h
    · omega
    · have := opp_lt r m _ p h; omega
theorem opp_len (r : Nat) : ∀ (m a : Nat), (opp r m a).length = m
  | 0, _ => rfl
  | m + 1, a => by rw [opp, List.length_cons, opp_len r m]
theorem opt_pat (k : T27) (hk : Kd k) (e e0 fr : Nat) : ∀ (m : Nat) (A B : List T76), (opp (rsz k) m A.length).foldl (pat e) (A ++ (opts (cd k) (lh k) (rsz k) fr e0 m A.length ++ B)) = A ++ (opts (cd k) (lh k) (rsz k) fr e m A.length ++ B)
  | 0, A, B => by rw [opp, opts, opts]; rfl
  | m + 1, A, B => by
    have hfl : ∀ a, (frd (cd k) (lh k) a fr).length = rsz k + 2 := fun a => by rw [frd_len hk.l]; have := clr_of hk; omega
    rw [opp, opts, opts, List.foldl_cons]
    have e1 : A ++ (iTo 2 e0 :: (frd (cd k) (lh k) (A.length + 1) fr ++ opts (cd k) (lh k) (rsz k) fr e0 m (A.length + rsz k + 3)) ++ B) = A ++ iTo 2 e0 :: (frd (cd k) (lh k) (A.length + 1) fr ++ (opts (cd k) (lh k) (rsz k) fr e0 m (A.length + rsz k + 3) ++ B)) := by simp
    rw [e1, pat_mid]
    have e5 : (({ iTo 2 e0 with To := (e : Int) } : T76)) = iTo 2 e := rfl
    have e3 : A ++ iTo 2 e :: (frd (cd k) (lh k) (A.length + 1) fr ++ (opts (cd k) (lh k) (rsz k) fr e0 m (A.length + rsz k + 3) ++ B)) = (A ++ iTo 2 e :: frd (cd k) (lh k) (A.length + 1) fr) ++ (opts (cd k) (lh k) (rsz k) fr e0 m (A.length + rsz k + 3) ++ B) := by simp
    have e4 : A.length + rsz k + 3 = (A ++ iTo 2 e :: frd (cd k) (lh k) (A.length + 1) fr).length := by simp [hfl]; omega
    have ihh := opt_pat k hk e e0 fr m (A ++ iTo 2 e :: frd (cd k) (lh k) (A.length + 1) fr) B
    rw [← e4] at ihh
    rw [e5, e3, ihh]
    simp
theorem p54_3 (n : T27) {k : T27} (hk : Kd k) (hks : ix (ls n.Kids) 0 = some k) (d : Nat) (hd : d ≤ 255) : ∀ (m i : Nat) (L : List T76) (s fr : Nat) (O : List Nat), m + i = d → L.length + m * (rsz k + 3) ≤ 16384 → fr ≤ L.length → fr ≤ s → O.length ≤ i →
    G34r (.p80_3 n (d : Int) (i : Int) (Co L s fr) (so (intz O))) = G34r (.p80_4 (so (intz (O ++ opp (rsz k) m L.length))) ((O ++ opp (rsz k) m L.length).length : Int) 0 (Co (L ++ opts (cd k) (lh k) (rsz k) fr 0 m L.length) (if m = 0 then s else max s (fr + (dep k + 1))) fr))
  | 0, i, L, s, fr, O, h, hs, hf, hfs, hO => by
    rw [G34r.eq_11, dfi (by omega), opts, List.append_nil, if_pos rfl, opp, List.append_nil, ls_so, intz_len]
  | m + 1, i, L, s, fr, O, h, hs, hf, hfs, hO => by
    have hfl : ∀ a, (frd (cd k) (lh k) a fr).length = rsz k + 2 := fun a => by rw [frd_len hk.l]; have := clr_of hk; omega
    rw [Nat.add_mul, Nat.one_mul] at hs
    have h1 : (L ++ [ik 2]).length = L.length + 1 := by simp
    have h2 : (L ++ [ik 2] ++ frd (cd k) (lh k) (L.length + 1) fr).length = L.length + rsz k + 3 := by rw [List.length_append, h1, hfl]; omega
    have e0 : ls (some [(L.length : Int)]) = intz [L.length] := rfl
    rw [G34r.eq_11, dti (by omega), f27 L s fr _ (by omega), sm, if_pos (by rw [ls_so]; simp [intz, ls]; omega), hks, sm, p59_f hk (L ++ [ik 2]) s fr (by rw [h1]; omega) (by rw [h1]; omega) hfs, sm, h1, e0, sapp_so, wn1 i (by omega)]
    have e4 : intz O ++ intz [L.length] = intz (O ++ [L.length]) := by simp [intz]
    rw [e4, p54_3 n hk hks d hd m (i + 1) _ _ fr _ (by omega) (by rw [h2]; omega) (by rw [h2]; omega) (by omega) (by simp; omega), h2, opp, opts, if_neg (by omega : ¬ m + 1 = 0)]
    have e : (if m = 0 then max s (fr + (dep k + 1)) else max (max s (fr + (dep k + 1))) (fr + (dep k + 1))) = max s (fr + (dep k + 1)) := by split <;> omega
    rw [e]
    have e7 : L ++ [ik 2] ++ frd (cd k) (lh k) (L.length + 1) fr ++ opts (cd k) (lh k) (rsz k) fr 0 m (L.length + rsz k + 3) = L ++ iTo 2 ((0 : Nat) : Int) :: (frd (cd k) (lh k) (L.length + 1) fr ++ opts (cd k) (lh k) (rsz k) fr 0 m (L.length + rsz k + 3)) := by simp
    have e8 : O ++ [L.length] ++ opp (rsz k) m (L.length + rsz k + 3) = O ++ L.length :: opp (rsz k) m (L.length + rsz k + 3) := by simp
    rw [e7, e8]
theorem p54_2 (n : T27) {k : T27} (hk : Kd k) (hks : ix (ls n.Kids) 0 = some k) (mn : Nat) (hmn : n.Min = mn) (hmm : mn ≤ 255 ∧ (n.Max = -1 ∨ (mn : Int) ≤ n.Max ∧ n.Max ≤ 255)) (L : List T76) (s fr : Nat) (h : L.length + (if n.Max = -1 then rsz k + 4 else (n.Max - n.Min).toNat * (rsz k + 3)) ≤ 16384) (hf : fr ≤ L.length) (hfs : fr ≤ s) :
    G34r (.p80_2 n (Co L s fr)) = some (Co (L ++ if n.Max = -1 then iTo 2 ((L.length + rsz k + 4 : Nat) : Int) :: (frd (cd k) (lh k) (L.length + 1) fr ++ [iTo 3 (L.length : Int)]) else opts (cd k) (lh k) (rsz k) fr (L.length + (n.Max - n.Min).toNat * (rsz k + 3)) (n.Max - n.Min).toNat L.length) (if n.Max = -1 ∨ n.Min < n.Max then max s (fr + (dep k + 1)) else s) fr) := by
  have hfl : ∀ a, (frd (cd k) (lh k) a fr).length = rsz k + 2 := fun a => by rw [frd_len hk.l]; have := clr_of hk; omega
  rw [G34r.eq_10]
  by_cases hx : n.Max = -1
  · rw [if_pos hx] at h
    have h1 : (L ++ [ik 2]).length = L.length + 1 := by simp
    have h2 : (L ++ [ik 2] ++ frd (cd k) (lh k) (L.length + 1) fr).length = L.length + rsz k + 3 := by rw [List.length_append, h1, hfl]; omega
    rw [eti hx, if_pos hx, if_pos (.inl hx), f27 L s fr _ (by omega), sm, hks, sm, p59_f hk (L ++ [ik 2]) s fr (by rw [h1]; omega) (by rw [h1]; omega) hfs, sm, h1, f27 _ _ _ _ (by rw [h2]; omega), sm, co_code]
    have e2 : L ++ [ik 2] ++ frd (cd k) (lh k) (L.length + 1) fr ++ [iTo 3 (L.length : Int)] = L ++ ik 2 :: (frd (cd k) (lh k) (L.length + 1) fr ++ [iTo 3 (L.length : Int)]) := by simp
    have e3 : (L ++ ik 2 :: (frd (cd k) (lh k) (L.length + 1) fr ++ [iTo 3 (L.length : Int)])).length = L.length + rsz k + 4 := by rw [List.length_append, List.length_cons, List.length_append, hfl]; simp; omega
    simp only [e2]
    rw [ixs (get_mid L _ (ik 2)), sm, pat_co _ _ (get_mid L _ (ik 2)), e3, pat_mid]
  · obtain ⟨d, hd⟩ : ∃ d : Nat, n.Max - n.Min = d := ⟨(n.Max - n.Min).toNat, by omega⟩
    rw [if_neg hx, hd, Int.toNat_natCast] at h
    rw [efi hx, if_neg hx, hd, wi _ (by omega) (by omega), Int.toNat_natCast]
    have h3 := p54_3 n hk hks d (by omega) d 0 L s fr [] (by omega) h hf hfs (by simp)
    have h3' : G34r (.p80_3 n (d : Int) 0 (Co L s fr) none) = _ := h3
    have hol : (opts (cd k) (lh k) (rsz k) fr 0 d L.length).length = d * (rsz k + 3) := opts_len hk.l _ _ _ (clr_of hk).symm d _
    have hlen : (L ++ opts (cd k) (lh k) (rsz k) fr 0 d L.length).length = L.length + d * (rsz k + 3) := by rw [List.length_append, hol]
    have hpl := opp_len (rsz k) d L.length
    have h4 := p54_4 (opp (rsz k) d L.length) (by omega) (opp (rsz k) d L.length).length 0 (L ++ opts (cd k) (lh k) (rsz k) fr 0 d L.length) (if d = 0 then s else max s (fr + (dep k + 1))) fr (by omega) (fun p hp => by rw [hlen]; exact opp_lt _ _ _ p hp)
    have h5 := opt_pat k hk (L.length + d * (rsz k + 3)) 0 fr d L []
    rw [List.append_nil, List.append_nil] at h5
    rw [h3', List.nil_append]
    have h4' : G34r (.p80_4 (so (intz (opp (rsz k) d L.length))) ((opp (rsz k) d L.length).length : Int) 0 (Co (L ++ opts (cd k) (lh k) (rsz k) fr 0 d L.length) (if d = 0 then s else max s (fr + (dep k + 1))) fr)) = _ := h4
    rw [h4', List.drop_zero, hlen, h5]
    have e : (if d = 0 then s else max s (fr + (dep k + 1))) = if n.Max = -1 ∨ n.Min < n.Max then max s (fr + (dep k + 1)) else s := by
      by_cases h0 : d = 0
      · rw [if_pos h0, if_neg (by omega)]
      · rw [if_neg h0, if_pos (by omega)]
    rw [e]
theorem compile : ∀ (n : T27) (b : Nat), cnt n ≤ 100000 → good n b → Pn n := by
  intro n
  induction n using tree_ind with
  | h n ih =>
    intro b hc hg L s fr hs hf hfs
    have hcl := cnt_eq n
    have hlen := cntl_len (ls n.Kids)
    have hln := cd_len n b hc hg
    rw [good_eq] at hg
    have ih' : ∀ k ∈ ls n.Kids, Kd k := fun k hk => by
      obtain ⟨b', hb'⟩ := goodl_mem hg.2 hk
      have := cnt_kid hk
      exact ⟨ih k hk b' (by omega) hb', cd_len k b' (by omega) hb', (f38 (by omega) hb').1, clr_len (by omega) hb'⟩
    have ihp : ∀ k ∈ ls n.Kids, Pn k ∧ Ln k := fun k hk => ⟨(ih' k hk).p, (ih' k hk).l⟩
    rw [G34r.eq_1]
    unfold F52
    rw [sm, cd_eq, dep_eq]
    rw [sz_eq] at hs
    have nok : ∀ (h : (ls n.Kids).length = 0), depl (ls n.Kids) = 0 := fun h => by rw [List.eq_nil_of_length_eq_zero h, depl]
    rcases pl_kids hg.1.1 with ⟨h, hk⟩ | ⟨h, hm, hk⟩ | ⟨h, hk⟩ | ⟨h, hk⟩
    · rcases h with h | h
      · simp (config := {decide := true}) only [h, if_true, if_false] at hs ⊢
        have := p51 n (by omega) ihp (ls n.Kids).length 0 L s fr (by omega) (by rw [List.drop_zero]; exact hs) hf hfs
        have this' : G34r (.p77_1 n.Kids ((ls n.Kids).length : Int) 0 (Co L s fr)) = _ := this
        rw [G34r.eq_2, this', sm, List.drop_zero]
      · simp (config := {decide := true}) only [h, if_true, if_false] at hs ⊢
        obtain ⟨F, k, hFk⟩ : ∃ F k, ls n.Kids = F ++ [k] := ⟨_, _, (List.dropLast_concat_getLast (by intro e; rw [e] at hk; simp at hk)).symm⟩
        obtain ⟨K, hK⟩ : ∃ K, n.Kids = some K := by
          cases e : n.Kids with
          | none => rw [e] at hk; simp [ls] at hk
          | some K => exact ⟨K, rfl⟩
        have hKl : K = F ++ [k] := by rw [hK] at hFk; exact hFk
        have hFl : (ls n.Kids).length = F.length + 1 := by rw [hFk]; simp
        have hcut : scut n.Kids 0 (IntKind.wrap .i64 (((ls n.Kids).length : Int) - 1)) = some (some F) := by
          rw [wm1 _ (by omega) (by omega), hFl, hK]
          simp only [scut]
          rw [if_pos (by rw [hKl]; simp; omega), hKl]
          simp
        have hixk : ix (ls n.Kids) (IntKind.wrap .i64 (((ls n.Kids).length : Int) - 1)) = some k := by
          rw [wm1 _ (by omega) (by omega), hFl, hFk]
          exact ixs (by simp)
        have hkm : k ∈ ls n.Kids := by rw [hFk]; simp
        have hFm : ∀ x ∈ F, Pn x ∧ Ln x := fun x hx => ihp x (by rw [hFk]; simp [hx])
        rw [hFl, hFk, szl_app] at hs
        have hal := alf_len F (fun x hx => (hFm x hx).2) 0 L.length fr
        have hL2 : (L ++ alf F 0 L.length fr).length = L.length + szl F + 2 * F.length := by rw [List.length_append, hal]; omega
        have h1 := p53_1 n (IntKind.wrap .i64 (((ls n.Kids).length : Int) - 1)) (some F) F rfl (by omega) hFm F.length 0 L s fr [] (by omega) (by rw [List.drop_zero]; omega) hf hfs (by simp)
        rw [List.drop_zero, List.nil_append] at h1
        have h1' : G34r (.p79_1 n (IntKind.wrap .i64 (((ls n.Kids).length : Int) - 1)) (some F) ((ls (some F)).length : Int) 0 (Co L s fr) none) = _ := h1
        rw [G34r.eq_5, hcut, sm, h1', hixk, sm, (ihp k hkm).1 (L ++ alf F 0 L.length fr) _ fr (by rw [hL2]; omega) (by rw [hL2]; omega) (by omega), sm, hL2]
        have hlk := (ihp k hkm).2 (L.length + szl F + 2 * F.length) fr
        have hC : (L ++ alf F 0 L.length fr ++ cd k (L.length + szl F + 2 * F.length) fr).length = L.length + szl F + 2 * F.length + sz k := by rw [List.length_append, hL2, hlk]
        have h2 := p53_2 (jps F L.length) (by rw [jps_len]; omega) (jps F L.length).length 0 _ (max (max s (fr + depl F)) (fr + dep k)) fr (by omega) (fun p hp => by rw [hC]; have := jps_lt F L.length p hp; omega)
        have h2' : G34r (.p79_2 (so (intz (jps F L.length))) ((jps F L.length).length : Int) 0 (Co (L ++ alf F 0 L.length fr ++ cd k (L.length + szl F + 2 * F.length) fr) (max (max s (fr + depl F)) (fr + dep k)) fr)) = _ := h2
        rw [h2', sm, List.drop_zero, hC, List.append_assoc, alf_pat _ _ _ F (fun x hx => (hFm x hx).2), hFk, all_front, depl_app, szl_app]
        have e1 : max (max s (fr + depl F)) (fr + dep k) = max s (fr + max (depl F) (dep k)) := by omega
        have e2 : L.length + (szl F + sz k) + 2 * ((F ++ [k]).length - 1) = L.length + szl F + 2 * F.length + sz k := by simp; omega
        rw [e1, e2]
    · simp (config := {decide := true}) only [h, if_true, if_false] at hs ⊢
      obtain ⟨k, hk⟩ : ∃ k, ls n.Kids = [k] := List.length_eq_one_iff.1 hk
      have hkd := ih' k (by simp [hk])
      have hks : ix (ls n.Kids) 0 = some k := by rw [hk]; rfl
      have e1 : szl [k] = sz k := by rw [szl, szl]; rfl
      have e2 : gcntl [k] = gcnt k := by rw [gcntl, gcntl]; rfl
      have e3 : depl [k] = dep k := by rw [depl, depl]; omega
      rw [hk, e1, e2] at hs
      have hs' : L.length + (n.Min.toNat * rsz k + if n.Max = -1 then rsz k + 4 else (n.Max - n.Min).toNat * (rsz k + 3)) ≤ 16384 := hs
      obtain ⟨mn, hmn⟩ := nat_of' hm.1
      have hmt : n.Min.toNat = mn := by omega
      rw [hmt] at hs'
      have hml := mins_len hkd.l (rsz k) fr (clr_of hkd).symm mn L.length
      have h1 := p54_1 n hkd hks mn (by omega) mn 0 L s fr (by omega) (by omega) hf hfs
      have h1' : G34r (.p80_1 n (mn : Int) 0 (Co L s fr)) = _ := h1
      have hL2 : (L ++ mins (cd k) (lh k) (rsz k) fr mn L.length).length = L.length + mn * rsz k := by rw [List.length_append, hml]
      have h2 := p54_2 n hkd hks mn hmn (by omega) (L ++ mins (cd k) (lh k) (rsz k) fr mn L.length) (if mn = 0 then s else max s (fr + dep k)) fr (by rw [hL2]; omega) (by rw [hL2]; omega) (by split <;> omega)
      rw [G34r.eq_8, hmn, h1', h2, sm, hL2, hk, rpl, ← hmn]
      unfold repc
      rw [hmt, e3, List.append_assoc]
      have e4 : (if n.Max = -1 ∨ n.Min < n.Max then max (if mn = 0 then s else max s (fr + dep k)) (fr + (dep k + 1)) else if mn = 0 then s else max s (fr + dep k)) = max s (fr + if n.Max = -1 ∨ n.Min < n.Max then dep k + 1 else if 0 < n.Min then dep k else 0) := by
        by_cases c1 : n.Max = -1 ∨ n.Min < n.Max
        · rw [if_pos c1, if_pos c1]; split <;> omega
        · rw [if_neg c1, if_neg c1]
          by_cases c2 : mn = 0
          · rw [if_pos c2, if_neg (by omega)]; omega
          · rw [if_neg c2, if_pos (by omega)]
      rw [e4]
    · simp (config := {decide := true}) only [h, if_true, if_false] at hs ⊢
      obtain ⟨k, hk⟩ : ∃ k, ls n.Kids = [k] := List.length_eq_one_iff.1 hk
      have hkd := ih' k (by simp [hk])
      have hks : ix (ls n.Kids) 0 = some k := by rw [hk]; rfl
      have e1 : szl [k] = sz k := by rw [szl, szl]; rfl
      have e3 : depl [k] = dep k := by rw [depl, depl]; omega
      rw [hk, e1] at hs
      have h1 : (L ++ [iGr 4 n.Group]).length = L.length + 1 := by simp
      rw [G34r.eq_4, f27 L s fr _ (by omega), sm, hks, sm, hkd.p (L ++ [iGr 4 n.Group]) s fr (by rw [h1]; omega) (by rw [h1]; omega) hfs, sm, f27 _ _ _ _ (by rw [List.length_append, hkd.l, h1]; omega), sm, sm, h1, hk, chl, e3]
      simp
    · have hd := nok hk
      have e0 : max s (fr + depl (ls n.Kids)) = s := by rw [hd]; omega
      rcases h with h | h | h | h | h <;> simp (config := {decide := true}) only [h, if_true, if_false, e0] at hs ⊢
      · unfold F72; rw [sm, List.append_nil]
      · unfold F73; rw [f27 L s fr _ (by omega), sm, sm]
      · unfold F76; rw [f27 L s fr _ (by omega), sm, sm]
      · unfold F74; rw [f27 L s fr _ (by omega), sm, sm]
      · unfold F75; rw [f27 L s fr _ (by omega), sm, sm]
noncomputable def prg (n : T27) : T45 := { Groups := (gcnt n : Int), Slots := (dep n : Int), Code := some (cd n 0 0 ++ [ik 12]) }
theorem f10 (n : T27) : ∃ r : T45 × Int, F19 n = some r ∧ ∃ w : Int × Int, F33 n = some w ∧ r.2 = w.2 ∧ (w.2 ≠ 0 → r.1 = { Groups := 0, Slots := 0, Code := none }) ∧ (w.2 = 0 → good n 0 ∧ cnt n ≤ 8192 ∧ sz n < 16384 ∧ w.1 = ((sz n + 1 : Nat) : Int) ∧ r.1 = prg n) := by
  obtain ⟨w, hw, u, hu, h1, h2⟩ := f9 n
  unfold F19
  rw [hw, sm]
  by_cases h0 : w.2 = 0
  · have hu0 : u = 0 := by
      by_cases e : u = 0
      · exact e
      · have := h1 e; rw [this] at h0; exact h0
    obtain ⟨hg, hc, hwe⟩ := h2 hu0
    have hsz : sz n < 16384 := by
      by_cases e : sz n < 16384
      · exact e
      · rw [if_neg e] at hwe; rw [hwe] at h0; cases h0
    rw [if_pos hsz] at hwe
    have hcp := compile n 0 (by omega) hg [] 0 0 (by simp; omega) (by simp) (by omega)
    have hcp' : F34 ({ code := (none : Sl T76), slots := 0, free := 0 } : T71) n = _ := hcp
    have hl := cd_len n 0 (by omega) hg 0 0
    rw [nfi h0, hcp', sm, List.nil_append, f27 _ _ _ _ (by rw [List.length_nil, hl]; omega), sm, f28 n hc, sm]
    refine ⟨_, rfl, w, rfl, h0.symm, fun h => absurd h0 h, fun _ => ⟨hg, hc, hsz, by rw [hwe], ?_⟩⟩
    unfold prg Co
    simp only [List.length_nil, Nat.zero_add, Nat.zero_max]
    congr 1
    cases cd n 0 0 <;> rfl
  · rw [nti h0]
    exact ⟨_, rfl, w, rfl, rfl, fun _ => rfl, fun h => absurd h h0⟩
end Go.Proofs.YtcidnoghoifmmaaDoor
end
section
/-
  Nfa: which programs are right, by the program and by the reference; which have back-references; the fault of a program.
-/


namespace Go.Proofs.YtcidnoghoifmmaaDoor
open Go AW
set_option linter.unusedVariables false
set_option linter.unusedSimpArgs false
set_option maxHeartbeats 4000000
def fit (p : T45) (x : T76) : Bool :=
  if x.Kind = 1 then decide (({ Kind := x.Kind, Set := x.Set, To := 0, Group := 0, Last := 0, Slot := 0 } : T76) = x)
  else if x.Kind = 2 ∨ x.Kind = 3 then decide (({ Kind := x.Kind, Set := Arr.rep 4 0, To := x.To, Group := 0, Last := 0, Slot := 0 } : T76) = x) && decide (0 ≤ x.To ∧ x.To < ((ls p.Code).length : Int))
  else if x.Kind = 4 ∨ x.Kind = 5 ∨ x.Kind = 9 then decide (({ Kind := x.Kind, Set := Arr.rep 4 0, To := 0, Group := x.Group, Last := 0, Slot := 0 } : T76) = x) && decide (1 ≤ x.Group ∧ x.Group ≤ p.Groups)
  else if x.Kind = 6 then decide (({ Kind := x.Kind, Set := Arr.rep 4 0, To := 0, Group := x.Group, Last := x.Last, Slot := 0 } : T76) = x) && decide (1 ≤ x.Group ∧ x.Group ≤ p.Groups ∧ x.Group ≤ x.Last ∧ x.Last ≤ p.Groups)
  else if x.Kind = 7 ∨ x.Kind = 8 then decide (({ Kind := x.Kind, Set := Arr.rep 4 0, To := 0, Group := 0, Last := 0, Slot := x.Slot } : T76) = x) && decide (0 ≤ x.Slot ∧ x.Slot < p.Slots)
  else if x.Kind = 10 ∨ x.Kind = 11 ∨ x.Kind = 12 then decide (({ Kind := x.Kind, Set := Arr.rep 4 0, To := 0, Group := 0, Last := 0, Slot := 0 } : T76) = x)
  else false
def fits (p : T45) : Nat → List T76 → Bool
  | _, [] => true
  | i, x :: l => (fit p x && ((x.Kind == 12) == decide (i + 1 = (ls p.Code).length))) && fits p (i + 1) l
def rp (p : T45) : Bool := decide (0 ≤ p.Groups ∧ p.Groups ≤ 99 ∧ 0 ≤ p.Slots ∧ p.Slots ≤ 16384 ∧ 1 ≤ (ls p.Code).length ∧ (ls p.Code).length ≤ 16384) && fits p 0 (ls p.Code)
theorem kinds (k : Int) : k = 1 ∨ k = 2 ∨ k = 3 ∨ k = 4 ∨ k = 5 ∨ k = 6 ∨ k = 7 ∨ k = 8 ∨ k = 9 ∨ k = 10 ∨ k = 11 ∨ k = 12 ∨ (k ≠ 1 ∧ k ≠ 2 ∧ k ≠ 3 ∧ k ≠ 4 ∧ k ≠ 5 ∧ k ≠ 6 ∧ k ≠ 7 ∧ k ≠ 8 ∧ k ≠ 9 ∧ k ≠ 10 ∧ k ≠ 11 ∧ k ≠ 12) := by omega
def hb (l : List T76) : Bool := l.any fun x => x.Kind == 9
theorem rp_len {p : T45} (h : rp p = true) : 1 ≤ (ls p.Code).length ∧ (ls p.Code).length ≤ 16384 := by
  simp only [rp, Bool.and_eq_true, decide_eq_true_eq] at h
  exact ⟨h.1.2.2.2.2.1, h.1.2.2.2.2.2⟩
theorem fits_at (p : T45) : ∀ (l : List T76) (k i : Nat) (x : T76), fits p k l = true → l[i]? = some x → fit p x = true ∧ (x.Kind = 12 ↔ k + i + 1 = (ls p.Code).length)
  | [], k, i, x, _, h => by simp at h
  | y :: l, k, 0, x, hf, h => by
    simp at h
    subst h
    simp only [fits, Bool.and_eq_true, beq_iff_eq] at hf
    refine ⟨hf.1.1, ?_⟩
    have := hf.1.2
    rw [Bool.eq_iff_iff, decide_eq_true_eq, beq_iff_eq] at this
    simpa using this
  | y :: l, k, i + 1, x, hf, h => by
    simp only [fits, Bool.and_eq_true] at hf
    have := fits_at p l (k + 1) i x hf.2 (by simpa using h)
    rw [show k + (i + 1) + 1 = k + 1 + i + 1 by omega]
    exact this
theorem rp_at {p : T45} (h : rp p = true) {i : Nat} {x : T76} (hx : (ls p.Code)[i]? = some x) : fit p x = true ∧ (x.Kind = 12 ↔ i + 1 = (ls p.Code).length) := by
  simp only [rp, Bool.and_eq_true] at h
  have := fits_at p _ 0 i x h.2 hx
  simpa using this
end Go.Proofs.YtcidnoghoifmmaaDoor
end
section
/-
  Nfa: what Compile lays out is right.
-/


namespace Go.Proofs.YtcidnoghoifmmaaDoor
open Go AW
set_option linter.unusedVariables false
set_option linter.unusedSimpArgs false
set_option linter.unusedSectionVars false
set_option maxHeartbeats 4000000
inductive Okx (hi G S : Nat) : T76 → Prop
  | set (s : Arr 4 Int) : Okx hi G S (iSet s)
  | to (k : Int) (t : Nat) : k = 2 ∨ k = 3 → t ≤ hi → Okx hi G S (iTo k (t : Int))
  | gr (k g : Int) : k = 4 ∨ k = 5 ∨ k = 9 → 1 ≤ g → g ≤ (G : Int) → Okx hi G S (iGr k g)
  | cl (g l : Int) : 1 ≤ g → g ≤ l → l ≤ (G : Int) → Okx hi G S (iCl g l)
  | sl (k : Int) (s : Nat) : k = 7 ∨ k = 8 → s < S → Okx hi G S (iSl k (s : Int))
  | be (k : Int) : k = 10 ∨ k = 11 → Okx hi G S (ik k)
theorem Okx.mono {hi G S hi' G' S' : Nat} {x : T76} (h : Okx hi G S x) (h1 : hi ≤ hi') (h2 : G ≤ G') (h3 : S ≤ S') : Okx hi' G' S' x := by
  cases h with
  | set s => exact .set s
  | to k t a b => exact .to k t a (by omega)
  | gr k g a b c => exact .gr k g a b (by omega)
  | cl g l a b c => exact .cl g l a b (by omega)
  | sl k s a b => exact .sl k s a (by omega)
  | be k a => exact .be k a
def AllOk (hi G S : Nat) (l : List T76) : Prop := ∀ x ∈ l, Okx hi G S x
theorem AllOk.nil {hi G S : Nat} : AllOk hi G S [] := fun x h => by simp at h
theorem AllOk.cons {hi G S : Nat} {x : T76} {l : List T76} (h : Okx hi G S x) (h' : AllOk hi G S l) : AllOk hi G S (x :: l) := fun y hy => by
  rcases List.mem_cons.1 hy with rfl | hy
  · exact h
  · exact h' y hy
theorem AllOk.app {hi G S : Nat} {l m : List T76} (h : AllOk hi G S l) (h' : AllOk hi G S m) : AllOk hi G S (l ++ m) := fun y hy => by
  rcases List.mem_append.1 hy with hy | hy
  · exact h y hy
  · exact h' y hy
theorem AllOk.mono {hi G S hi' G' S' : Nat} {l : List T76} (h : AllOk hi G S l) (h1 : hi ≤ hi') (h2 : G ≤ G') (h3 : S ≤ S') : AllOk hi' G' S' l := fun x hx => (h x hx).mono h1 h2 h3
def Ak (b : Nat) (k : T27) : Prop := ∀ a fr, AllOk (a + sz k) (b + gcnt k) (fr + dep k) (cd k a fr)
theorem cdl_ok (P : ∀ k b, Ak b k ∨ True) : ∀ (l : List T27) (b : Nat), (∀ k ∈ l, ∀ b, good k b → Ak b k) → goodl l b → ∀ a fr, AllOk (a + szl l) (b + gcntl l) (fr + depl l) (cdl l a fr)
  | [], b, _, _, a, fr => by rw [cdl]; exact .nil
  | x :: l, b, h, hg, a, fr => by
    rw [goodl] at hg
    rw [cdl, szl, gcntl, depl]
    exact (h x (by simp) b hg.1 a fr |>.mono (by omega) (by omega) (by omega)).app ((cdl_ok P l (b + gcnt x) (fun k hk => h k (by simp [hk])) hg.2 (a + sz x) fr).mono (by omega) (by omega) (by omega))
theorem all_ok : ∀ (l : List T27) (b : Nat), (∀ k ∈ l, ∀ b, good k b → Ak b k) → goodl l b → ∀ (e a fr : Nat), a + szl l + 2 * (l.length - 1) ≤ e → AllOk e (b + gcntl l) (fr + depl l) (all l e a fr)
  | [], b, _, _, e, a, fr, he => by rw [all]; exact .nil
  | [x], b, h, hg, e, a, fr, he => by
    rw [goodl] at hg
    have e1 : szl [x] = sz x := by simp [szl]
    rw [e1] at he
    rw [all, if_pos (show ([] : List T27).isEmpty = true from rfl), gcntl, depl]
    exact (h x (by simp) b hg.1 a fr).mono (by omega) (by omega) (by omega)
  | x :: y :: l, b, h, hg, e, a, fr, he => by
    rw [goodl] at hg
    have e1 : szl (x :: y :: l) = sz x + szl (y :: l) := by rw [szl]
    have e2 : gcntl (x :: y :: l) = gcnt x + gcntl (y :: l) := by rw [gcntl]
    have e3 : depl (x :: y :: l) = max (dep x) (depl (y :: l)) := by rw [depl]
    simp only [List.length_cons] at he
    rw [all, if_neg (by simp), e2, e3]
    refine .cons (.to 2 _ (.inl rfl) (by omega)) (.app ((h x (by simp) b hg.1 (a + 1) fr).mono (by omega) (by omega) (by omega)) (.cons (.to 3 _ (.inr rfl) (by omega)) ?_))
    exact (all_ok (y :: l) (b + gcnt x) (fun k hk => h k (by simp at hk ⊢; exact .inr hk)) hg.2 e (a + sz x + 2) fr (by simp only [List.length_cons]; omega)).mono (by omega) (by omega) (by omega)
section
variable {k : T27} {b : Nat} (hA : Ak b k) (hk : Kd k) (hl : lh k = (glo b (gcnt k), ghi b (gcnt k)))
include hA hk hl
theorem rnd_ok (a fr : Nat) : AllOk (a + rsz k) (b + gcnt k) (fr + dep k) (rnd (cd k) (lh k) a fr) := by
  have hr := clr_of hk
  refine .app ?_ ((hA (a + (clr (lh k)).length) fr).mono (by omega) (by omega) (by omega))
  rw [hl]
  unfold clr glo ghi
  by_cases h0 : gcnt k = 0
  · rw [if_pos h0, if_neg (by simp)]; exact .nil
  · rw [if_neg h0, if_neg h0, if_pos (show (b : Int) + 1 > 0 by omega)]
    exact .cons (.cl _ _ (by simp only; omega) (by simp only; omega) (by simp only; omega)) .nil
theorem frd_ok (a fr : Nat) : AllOk (a + rsz k + 2) (b + gcnt k) (fr + (dep k + 1)) (frd (cd k) (lh k) a fr) := by
  refine .cons (.sl 7 fr (.inl rfl) (by omega)) (.app ((rnd_ok hA hk hl (a + 1) (fr + 1)).mono (by omega) (by omega) (by omega)) (.cons (.sl 8 fr (.inr rfl) (by omega)) .nil))
theorem mins_ok (fr : Nat) : ∀ (m a : Nat), AllOk (a + m * rsz k) (b + gcnt k) (fr + dep k) (mins (cd k) (lh k) (rsz k) fr m a)
  | 0, a => by rw [mins]; exact .nil
  | m + 1, a => by
    rw [mins, Nat.add_mul, Nat.one_mul]
    exact .app ((rnd_ok hA hk hl a fr).mono (by omega) (by omega) (by omega)) ((mins_ok fr m (a + rsz k)).mono (by omega) (by omega) (by omega))
theorem opts_ok (fr e : Nat) : ∀ (m a : Nat), a + m * (rsz k + 3) ≤ e → AllOk e (b + gcnt k) (fr + (dep k + 1)) (opts (cd k) (lh k) (rsz k) fr e m a)
  | 0, a, h => by rw [opts]; exact .nil
  | m + 1, a, h => by
    rw [Nat.add_mul, Nat.one_mul] at h
    rw [opts]
    exact .cons (.to 2 e (.inl rfl) (by omega)) (.app ((frd_ok hA hk hl (a + 1) fr).mono (by omega) (by omega) (by omega)) (opts_ok fr e m (a + rsz k + 3) (by omega)))
theorem repc_ok (mn mx : Int) (h0 : 0 ≤ mn) (hm : mx = -1 ∨ mn ≤ mx) (a fr : Nat) : AllOk (a + (mn.toNat * rsz k + if mx = -1 then rsz k + 4 else (mx - mn).toNat * (rsz k + 3))) (b + gcnt k) (fr + (if mx = -1 ∨ mn < mx then dep k + 1 else if 0 < mn then dep k else 0)) (repc (cd k) (lh k) (rsz k) mn mx a fr) := by
  unfold repc
  refine .app ?_ ?_
  · by_cases hz : mn.toNat = 0
    · rw [hz, mins]; exact .nil
    · refine (mins_ok hA hk hl fr mn.toNat a).mono (by omega) (by omega) ?_
      split
      · omega
      · rw [if_pos (by omega)]; omega
  · by_cases hx : mx = -1
    · rw [if_pos hx, if_pos hx, if_pos (.inl hx)]
      refine .cons (.to 2 _ (.inl rfl) (by omega)) (.app ((frd_ok hA hk hl (a + mn.toNat * rsz k + 1) fr).mono (by omega) (by omega) (by omega)) (.cons (.to 3 _ (.inr rfl) (by omega)) .nil))
    · rw [if_neg hx, if_neg hx]
      by_cases hz : (mx - mn).toNat = 0
      · rw [hz, opts]; exact .nil
      · rw [if_pos (by omega)]
        exact (opts_ok hA hk hl fr _ (mx - mn).toNat (a + mn.toNat * rsz k) (Nat.le_refl _)).mono (by omega) (by omega) (by omega)
end
theorem cd_ok : ∀ (n : T27) (b : Nat), cnt n ≤ 100000 → good n b → Ak b n := by
  intro n
  induction n using tree_ind with
  | h n ih =>
    intro b hc hg a fr
    have hcl := cnt_eq n
    have hgc := gcnt_eq n
    rw [good_eq] at hg
    have ih' : ∀ k ∈ ls n.Kids, ∀ b, good k b → Ak b k := fun k hk b hb => ih k hk b (by have := cnt_kid hk; omega) hb
    rw [cd_eq, dep_eq, sz_eq]
    rcases pl_kids hg.1.1 with ⟨h, hk⟩ | ⟨h, hm, hk⟩ | ⟨h, hk⟩ | ⟨h, hk⟩
    · rcases h with h | h
      · simp (config := {decide := true}) only [h, if_true, if_false, Nat.add_zero, Nat.zero_add] at hg hgc ⊢
        rw [hgc]
        exact cdl_ok (fun _ _ => .inr trivial) _ b ih' hg.2 a fr
      · simp (config := {decide := true}) only [h, if_true, if_false, Nat.add_zero, Nat.zero_add] at hg hgc ⊢
        rw [hgc, ← Nat.add_assoc]
        exact all_ok _ b ih' hg.2 _ a fr (Nat.le_refl _)
    · obtain ⟨k, hk⟩ : ∃ k, ls n.Kids = [k] := List.length_eq_one_iff.1 hk
      have hkm : k ∈ ls n.Kids := by simp [hk]
      have hck := cnt_kid hkm
      simp (config := {decide := true}) only [h, if_true, if_false, Nat.add_zero, Nat.zero_add] at hg hgc ⊢
      rw [hk, goodl, goodl] at hg
      have hgk := hg.2.1
      have hkd : Kd k := ⟨compile k b (by omega) hgk, cd_len k b (by omega) hgk, (f38 (by omega) hgk).1, clr_len (by omega) hgk⟩
      have := repc_ok (ih' k hkm b hgk) hkd (f38 (by omega) hgk).2 n.Min n.Max (by omega) (by omega) a fr
      have e1 : szl [k] = sz k := by simp [szl]
      have e2 : gcntl [k] = gcnt k := by simp [gcntl]
      have e3 : depl [k] = dep k := by simp [depl]
      rw [hgc, hk, rpl, e1, e2, e3]
      exact this
    · obtain ⟨k, hk⟩ : ∃ k, ls n.Kids = [k] := List.length_eq_one_iff.1 hk
      have hkm : k ∈ ls n.Kids := by simp [hk]
      simp (config := {decide := true}) only [h, if_true, if_false, Nat.add_zero, Nat.zero_add] at hg hgc ⊢
      rw [hk, goodl, goodl] at hg
      have hgr := (hg.1.2.1 h).1
      have e1 : szl [k] = sz k := by simp [szl]
      have e2 : gcntl [k] = gcnt k := by simp [gcntl]
      have e3 : depl [k] = dep k := by simp [depl]
      rw [hgc, hk, chl, e1, e2, e3]
      exact .cons (.gr 4 _ (.inl rfl) (by omega) (by omega)) (.app ((ih' k hkm _ hg.2.1 (a + 1) fr).mono (by omega) (by omega) (by omega)) (.cons (.gr 5 _ (.inr (.inl rfl)) (by omega) (by omega)) .nil))
    · rcases h with h | h | h | h | h <;> simp (config := {decide := true}) only [h, if_true, if_false]
      · exact .nil
      · exact .cons (.set _) .nil
      · have := hg.1.2.2 h
        exact .cons (.gr 9 _ (.inr (.inr rfl)) (by omega) (by omega)) .nil
      · exact .cons (.be 10 (.inl rfl)) .nil
      · exact .cons (.be 11 (.inr rfl)) .nil
theorem gcnt_99 : ∀ (n : T27) (b : Nat), good n b → gcnt n = 0 ∨ b + gcnt n ≤ 99 := by
  intro n
  induction n using tree_ind with
  | h n ih =>
    intro b hg
    rw [good_eq] at hg
    rw [gcnt_eq]
    have key : ∀ (l : List T27) (b : Nat), (∀ k ∈ l, ∀ b, good k b → gcnt k = 0 ∨ b + gcnt k ≤ 99) → goodl l b → gcntl l = 0 ∨ b + gcntl l ≤ 99 := by
      intro l
      induction l with
      | nil => intro b _ _; left; rw [gcntl]
      | cons x l ihl =>
        intro b h hg
        rw [goodl] at hg
        have h1 := h x (by simp) b hg.1
        have h2 := ihl (b + gcnt x) (fun k hk => h k (by simp [hk])) hg.2
        rw [gcntl]; omega
    have := key _ _ ih hg.2
    by_cases h6 : n.Kind = 6
    · have h99 := (hg.1.2.1 h6).2
      rw [if_pos h6] at this ⊢; omega
    · rw [if_neg h6] at this ⊢; omega
theorem dep_sz : ∀ (n : T27) (b : Nat), good n b → dep n ≤ sz n := by
  intro n
  induction n using tree_ind with
  | h n ih =>
    intro b hg
    rw [good_eq] at hg
    have ih' : ∀ k ∈ ls n.Kids, dep k ≤ sz k := fun k hk => by
      obtain ⟨b', hb'⟩ := goodl_mem hg.2 hk
      exact ih k hk b' hb'
    have key : ∀ (l : List T27), (∀ k ∈ l, dep k ≤ sz k) → depl l ≤ szl l := by
      intro l
      induction l with
      | nil => intro _; rw [depl, szl]; omega
      | cons x l ihl => intro h; have := h x (by simp); have := ihl fun k hk => h k (by simp [hk]); rw [depl, szl]; omega
    have hd := key _ ih'
    rw [dep_eq, sz_eq]
    rcases pl_kids hg.1.1 with ⟨h, hk⟩ | ⟨h, hm, hk⟩ | ⟨h, hk⟩ | ⟨h, hk⟩
    · rcases h with h | h <;> simp (config := {decide := true}) only [h, if_true, if_false] <;> omega
    · simp (config := {decide := true}) only [h, if_true, if_false]
      generalize (if gcntl (ls n.Kids) = 0 then 0 else 1) = c
      by_cases hx : n.Max = -1
      · rw [if_pos (.inl hx), if_pos hx]; omega
      · rw [if_neg hx]
        by_cases h1 : n.Min < n.Max
        · rw [if_pos (.inr h1)]
          have : szl (ls n.Kids) + c + 3 ≤ (n.Max - n.Min).toNat * (szl (ls n.Kids) + c + 3) := Nat.le_mul_of_pos_left _ (by omega)
          omega
        · rw [if_neg (by omega)]
          by_cases h2 : 0 < n.Min
          · rw [if_pos h2]
            have : szl (ls n.Kids) + c ≤ n.Min.toNat * (szl (ls n.Kids) + c) := Nat.le_mul_of_pos_left _ (by omega)
            omega
          · rw [if_neg h2]; omega
    · simp (config := {decide := true}) only [h, if_true, if_false]; omega
    · have : depl (ls n.Kids) = 0 := by rw [List.eq_nil_of_length_eq_zero hk, depl]
      rcases h with h | h | h | h | h <;> simp (config := {decide := true}) only [h, if_true, if_false] <;> omega
theorem okx_fit {p : T45} {hi G S : Nat} {x : T76} (h : Okx hi G S x) (h1 : hi < (ls p.Code).length) (h2 : p.Groups = (G : Int)) (h3 : p.Slots = (S : Int)) : fit p x = true ∧ x.Kind ≠ 12 := by
  unfold fit
  cases h with
  | set s => exact ⟨by simp, by show (1 : Int) ≠ 12; decide⟩
  | to k t a b => rcases a with rfl | rfl <;> refine ⟨by simp; omega, by simp⟩
  | gr k g a b c => rcases a with rfl | rfl | rfl <;> refine ⟨by simp; omega, by simp⟩
  | cl g l a b c => exact ⟨by simp; omega, by show (6 : Int) ≠ 12; decide⟩
  | sl k s a b => rcases a with rfl | rfl <;> refine ⟨by simp; omega, by simp⟩
  | be k a => rcases a with rfl | rfl <;> refine ⟨by simp, by simp⟩
theorem fits_app {p : T45} : ∀ (l : List T76) (i : Nat), (∀ x ∈ l, fit p x = true ∧ x.Kind ≠ 12) → i + l.length + 1 = (ls p.Code).length → fits p i (l ++ [ik 12]) = true
  | [], i, _, h => by
    have : fit p (ik 12) = true := by unfold fit; simp
    rw [List.nil_append, fits, fits, this]
    simp at h
    simp [h]
  | x :: l, i, hx, h => by
    obtain ⟨h1, h2⟩ := hx x (by simp)
    simp only [List.length_cons] at h
    rw [List.cons_append, fits, h1, fits_app l (i + 1) (fun y hy => hx y (by simp [hy])) (by omega), decide_eq_false (by omega)]
    simp [h2]
theorem rp_prg {n : T27} (hg : good n 0) (hc : cnt n ≤ 8192) (hs : sz n < 16384) : rp (prg n) = true := by
  have hl := cd_len n 0 (by omega) hg 0 0
  have hok := cd_ok n 0 (by omega) hg 0 0
  have h99 := gcnt_99 n 0 hg
  have hd := dep_sz n 0 hg
  have hcode : ls (prg n).Code = cd n 0 0 ++ [ik 12] := rfl
  have hlen : (ls (prg n).Code).length = sz n + 1 := by rw [hcode, List.length_append, hl]; rfl
  unfold rp
  rw [hlen, decide_eq_true (by show 0 ≤ ((gcnt n : Nat) : Int) ∧ ((gcnt n : Nat) : Int) ≤ 99 ∧ 0 ≤ ((dep n : Nat) : Int) ∧ ((dep n : Nat) : Int) ≤ 16384 ∧ _; omega), hcode, Bool.true_and]
  apply fits_app
  · intro x hx
    exact okx_fit (hok x hx) (by rw [hlen]; omega) (by show ((gcnt n : Nat) : Int) = _; omega) (by show ((dep n : Nat) : Int) = _; omega)
  · rw [hl, hlen]; omega
end Go.Proofs.YtcidnoghoifmmaaDoor
end
section
/-
  Nfa: which instructions a run comes to without a further byte.
-/

namespace Go.Proofs.YtcidnoghoifmmaaDoor
open Go AW
set_option linter.unusedVariables false
set_option linter.unusedSimpArgs false
set_option maxHeartbeats 4000000
theorem nat_of {z : Int} (h : 0 ≤ z) : ∃ n : Nat, z = n := ⟨z.toNat, by omega⟩
theorem nodup_len : ∀ (N : Nat) (L : List Nat), L.Nodup → (∀ x ∈ L, x < N) → L.length ≤ N
  | 0, L, _, h => by
    cases L with
    | nil => simp
    | cons a l => exact absurd (h a (by simp)) (by omega)
  | N + 1, L, hn, h => by
    by_cases hm : N ∈ L
    · have h1 := nodup_len N (L.erase N) (hn.erase N) (fun x hx => by
        have := (List.Nodup.mem_erase_iff hn).1 hx
        have := h x this.2
        omega)
      have := List.length_erase_of_mem hm
      omega
    · have := nodup_len N L hn (fun x hx => by
        have := h x hx
        have : x ≠ N := fun e => hm (e ▸ hx)
        omega)
      omega
def addN (L : List Nat) (i : Nat) : List Nat := if i ∈ L then L else L ++ [i]
theorem mem_addN (L : List Nat) (i j : Nat) : j ∈ addN L i ↔ j ∈ L ∨ j = i := by
  unfold addN
  split
  · constructor
    · exact .inl
    · rintro (h | rfl) <;> assumption
  · simp
theorem addN_pre (L : List Nat) (i : Nat) : L <+: addN L i := by
  unfold addN
  split
  · exact List.prefix_refl _
  · exact List.prefix_append _ _
theorem addsN_pre (l : List Nat) : ∀ L : List Nat, L <+: l.foldl addN L := by
  induction l with
  | nil => exact fun L => List.prefix_refl _
  | cons a l ih => exact fun L => (addN_pre L a).trans (ih _)
theorem mem_addsN (l : List Nat) : ∀ (L : List Nat) (j : Nat), j ∈ l.foldl addN L ↔ j ∈ L ∨ j ∈ l := by
  induction l with
  | nil => simp
  | cons a l ih => intro L j; simp only [List.foldl_cons, ih, mem_addN, List.mem_cons, or_assoc]
def ints (L : List Nat) : List Int := L.map fun (n : Nat) => (n : Int)
structure Mk (N : Nat) (s : T128) (L : List Nat) : Prop where
  len : ∃ b, s.in_ = some b ∧ b.length = N ∧ ∀ j, j < N → b[j]? = some (decide (j ∈ L))
  lst : s.list = so (ints L)
  nd : L.Nodup
  lt : ∀ j ∈ L, j < N
def eps (C : List T76) (len q i : Nat) : List Nat :=
  match C[i]? with
  | none => []
  | some x =>
    if x.Kind = 1 then [] else if x.Kind = 12 then [] else if x.Kind = 2 then [i + 1, x.To.toNat] else if x.Kind = 3 then [x.To.toNat]
    else if x.Kind = 10 then (if q = 0 then [i + 1] else []) else if x.Kind = 11 then (if q = len then [i + 1] else []) else [i + 1]
theorem fit_to {p : T45} {x : T76} (h : fit p x = true) (hk : x.Kind = 2 ∨ x.Kind = 3) : 0 ≤ x.To ∧ x.To < ((ls p.Code).length : Int) := by
  unfold fit at h
  have h1 : x.Kind ≠ 1 := by omega
  simp only [h1, if_false, hk, if_true, Bool.and_eq_true, decide_eq_true_eq] at h
  exact h.2
variable {σ : Type}
inductive Rch (C : List T76) (len q : Nat) (B : Nat → Prop) : Nat → Prop
  | base {j : Nat} : B j → Rch C len q B j
  | step {i j : Nat} : Rch C len q B i → j ∈ eps C len q i → Rch C len q B j
end Go.Proofs.YtcidnoghoifmmaaDoor
end
section
/-
  Nfa: where a match that begins at a place may end.
-/

namespace Go.Proofs.YtcidnoghoifmmaaDoor
open Go AW
set_option linter.unusedVariables false
set_option linter.unusedSimpArgs false
set_option maxHeartbeats 4000000
theorem div64 : ∀ n : Fin 256, IntKind.wrap .u8 (Int.tdiv (n.val : Int) 64) = ((n.val / 64 : Nat) : Int) ∧ Int.tmod (n.val : Int) 64 = ((n.val % 64 : Nat) : Int) := by decide +kernel
def hasB (s : Arr 4 Int) (b : UInt8) : Bool := andI .u64 (shrI .u64 (s.l.getD (b.toNat / 64) 0) ((b.toNat % 64 : Nat) : Int)) 1 == 1
theorem f44 (s : Arr 4 Int) (b : UInt8) : F57 s (b.toNat : Int) = some (hasB s b) := by
  have hb : b.toNat < 256 := b.toNat_lt
  obtain ⟨h1, h2⟩ := div64 ⟨b.toNat, hb⟩
  simp only at h1 h2
  have hl := s.h
  obtain ⟨v, hv⟩ := get_ex s.l (i := b.toNat / 64) (by omega)
  unfold F57 hasB
  rw [h1, h2, if_pos (by omega), ixs hv, sm, if_pos (by omega)]
  simp [List.getD, hv]
inductive Cf (C : List T76) (s : Str) (fr : Nat) : Nat → Nat → Prop
  | start : Cf C s fr fr 0
  | eps {q i j : Nat} : Cf C s fr q i → j ∈ eps C s.length q i → Cf C s fr q j
  | chr {q i : Nat} {x : T76} {b : UInt8} : Cf C s fr q i → C[i]? = some x → x.Kind = 1 → s[q]? = some b → hasB x.Set b = true → Cf C s fr (q + 1) (i + 1)
open Classical in
noncomputable def acc (C : List T76) (s : Str) (fr q : Nat) : Bool := decide (Cf C s fr q (C.length - 1))
abbrev Zz := (Sl Int) × Int × (Sl Int) × Nat
structure Pz (q base k : Nat) (z : Zz) : Prop where
  f : z.2.2.2 = 0
  p : z.2.1 = (q : Int)
  o : (ls z.1).length ≤ base + k
  n : (ls z.2.2.1).length ≤ k
end Go.Proofs.YtcidnoghoifmmaaDoor
end
section
/-
  Nfa: Ends, Whole and Match.
-/

namespace Go.Proofs.YtcidnoghoifmmaaDoor
open Go AW
set_option linter.unusedVariables false
set_option linter.unusedSimpArgs false
set_option maxHeartbeats 4000000
end Go.Proofs.YtcidnoghoifmmaaDoor
end
