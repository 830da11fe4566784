/-
  Texts of this proof, put together: D4, D5, PlA, NfA, NfC, NfD, NfE, NfR1, NfR2, Fu, Fu2, PureRuns.
-/
import Derived.Test.YtjbafmnocopofaaPk32
import Derived.Test.YtjbafmnocopofaaPk31
import Derived.KernelRfl
section
/-
  Functions of the program's as plain functions.
-/

set_option linter.unusedVariables false
set_option maxRecDepth 4000
set_option maxHeartbeats 4000000
namespace Go.Proofs.Ytjbafmnocopofaa
open Go AW
attribute [local irreducible] W WD SH XS XLoop DFun XCall XYield
/-! ### 15: paddock/paddockref10.Ints -/
def C15_27 : ACode := .s (.ops [q 4 (.mv (.c (.bool false)))]) .ret
def C15_16 : ACode := .s (.s (.ops [q 11 (.mv 5), q 12 (.mv 0), q 13 (.len 12), q 14 (.binI .lss 11 13)]) (.cond 14 .skip (.exit 0))) (.s (.block 1 (.s (.draw [] 0 0 [q 17 (.mv 0), q 18 (.mv 5), q 19 (.iaddrL 1 17 18), q 20 (.load1 19), q 21 (.mv 1), q 22 (.mv 5), q 23 (.iaddrL 1 21 22), q 24 (.load1 23), q 25 (.binI .neq 20 24)] []) (.cond 25 C15_27 .skip))) (.ops [q 15 (.mv 5), q 16 (.binI .add 15 (ki 1)), q 5 (.mv 16)]))
def C15_32 : ACode := .s (.ops [q 4 (.mv (.c (.bool true)))]) .ret
def C15_1 : ACode := .s (.ops [q 4 (.mv (.c (.bool false)))]) (.s (.s (.ops [q 6 (.mv 0), q 7 (.len 6), q 8 (.mv 1), q 9 (.len 8), q 10 (.binI .neq 7 9)]) (.cond 10 (.s (.ops [q 4 (.mv (.c (.bool false)))]) .ret) .skip)) (.s (.s (.ops [q 5 (.mv (ki 0))]) (.block 0 (.loop C15_16))) C15_32))
def R15 : List RA := [(.tmp 4)]
theorem k15 : compF Try.prog (muL []) 15 = some ⟨26, C15_1, R15⟩ := by kernel_rfl
noncomputable abbrev X15 (r : Bool) : Cx := cD Try.prog noG 26 R15 (AV.bool r)
inductive St15 where
 | p1 (a : Sl Int) (b : Sl Int) (i : Int)
noncomputable def G15 : St15 → Option Bool
 | .p1 a b i =>
  (if (decide (i < ((ls a).length : Int))) = true then
   (ix (ls a) i >>= fun v_3 =>
    (ix (ls b) i >>= fun v_5 =>
     (if (v_3 != v_5) = true then
      (some false)
     else
      (G15 (.p1 a b (IntKind.wrap .i64 (i + 1)))))))
  else
   (some true))
 partial_fixpoint
def M15 (x : St15) (r : Bool) : Prop := match x with
 | .p1 a b i => ∀ (tm : Fr) (st : Store), Frm tm [(0, slV 1 (AV.int .i64) a), (1, slV 1 (AV.int .i64) b), (5, AV.int .i64 i)] → SH st [] → W (X15 r) [.lp C15_16, .blk 0, .code C15_32] tm st
theorem w15 : ∀ (x : St15) (r : Bool), G15 x = some r → M15 x r := by
 refine G15.partial_correctness (M15) ?_
 intro g ih x r hF
 cases x with
 | p1 a b i =>
  dsimp only at hF
  intro tm st hf hs
  refine en hf ?_
  refine lp ?_
  refine rn 2 rfl ?_
  refine W.o (e_len (rd_V rfl)) ?_
  refine rn 1 rfl ?_
  refine ci hF rfl (fun c_2 hF => ?_) (fun c_2 hF => ?_)
  · refine rn 0 rfl ?_
    have h0 := hs
    refine dr0 ?_
    obtain ⟨v_3, g_4, hF⟩ := bind_some hF
    refine dn 2 rfl ?_
    refine de rfl (e_iaddrL (rd_V rfl) rfl g_4) ?_
    refine de rfl (l1D rfl rfl) ?_
    obtain ⟨v_5, g_6, hF⟩ := bind_some hF
    refine dn 2 rfl ?_
    refine de rfl (e_iaddrL (rd_V rfl) rfl g_6) ?_
    refine de rfl (l1D rfl rfl) ?_
    refine dn 1 rfl ?_
    refine dz ?_
    refine rn 0 rfl ?_
    refine ci hF rfl (fun c_7 hF => ?_) (fun c_7 hF => ?_)
    · refine rn 1 rfl ?_
      cases hF
      exact rD (rlt rl0) rfl
    · refine rn 3 rfl ?_
      exact ih (.p1 a b (IntKind.wrap .i64 (i + 1))) _ hF _ _ ⟨rfl, rfl, rfl, trivial⟩ hs
  · refine rn 1 rfl ?_
    cases hF
    exact rD (rlt rl0) rfl
noncomputable def F15 (a : Sl Int) (b : Sl Int) : Option Bool :=
 (if (((ls a).length : Int) != ((ls b).length : Int)) = true then
  (some false)
 else
  (G15 (.p1 a b 0)))
theorem d15 (a : Sl Int) (b : Sl Int) (r : Bool) (hF : F15 a b = some r) : DFun Try.prog noG 15 [slV 1 (AV.int .i64) a, slV 1 (AV.int .i64) b] (AV.bool r) := by
 unfold F15 at hF
 refine bD k15 rfl ?_
 have hs : SH [] [] := SH.nil
 generalize ([] : Store) = st at hs ⊢
 refine rn 2 rfl ?_
 refine W.o (e_len (rd_V rfl)) ?_
 refine rn 1 rfl ?_
 refine W.o (e_len (rd_V rfl)) ?_
 refine rn 1 rfl ?_
 refine ci hF rfl (fun c_1 hF => ?_) (fun c_1 hF => ?_)
 · refine rn 1 rfl ?_
   cases hF
   exact rD (rlt rl0) rfl
 · refine rn 1 rfl ?_
   exact w15 (.p1 a b 0) _ hF _ _ ⟨rfl, rfl, rfl, trivial⟩ hs
/-! ### 16: paddock/paddockref10.Copy -/
def C16_10 : ACode := .s (.s (.ops [q 10 (.mv 4), q 11 (.faddr 2 1), q 12 (.load1 11), q 13 (.len 12), q 14 (.binI .lss 10 13)]) (.cond 14 .skip (.exit 0))) (.s (.block 1 (.draw [] 0 1 [q 17 (.faddr 2 3), q 18 (.load1 17), q 19 (.faddr 2 1), q 20 (.load1 19), q 21 (.mv 4), q 22 (.iaddrL 9 20 21), q 23 (.loadN 9 22), q 24 (.bslice 9 1 true [(.int .u8 0), (.int .u64 0), (.int .u64 0), (.int .u64 0), (.int .u64 0), (.int .i64 0), (.int .i64 0), (.int .i64 0), (.int .i64 0)] [(0, (9, 23))] false)] [q 25 (.app 9 72 18 24), q 26 (.faddr 2 3), q0 (.store 1 26 25)])) (.ops [q 15 (.mv 4), q 16 (.binI .add 15 (ki 1)), q 4 (.mv 16)]))
def C16_20 : ACode := .s (.ops [q 27 (.loadN 3 3), q0 (.store 3 2 27)]) .ret
def C16_1 : ACode := .s (.ops [q 1 (.boxD 3 0), q 2 (.alloc [(.int .i64 0), (.int .i64 0), .nils])]) (.s (.ops [q 5 (.faddr 0 1), q 6 (.load1 5), q 7 (.faddr 1 1), q 8 (.load1 7), q 9 (.build [(.int .i64 0), (.int .i64 0), .nils] [(0, (1, 6)), (1, (1, 8))]), q 3 (.alloc [(.int .i64 0), (.int .i64 0), .nils]), q0 (.store 3 3 9)]) (.s (.s (.ops [q 4 (.mv (ki 0))]) (.block 0 (.loop C16_10))) C16_20))
def R16 : List RA := [(.cellN 2 3)]
theorem k16 : compF Try.prog (muL [1]) 16 = some ⟨28, C16_1, R16⟩ := by kernel_rfl
noncomputable abbrev X16 (r : T34) : Cx := cD Try.prog noG 28 R16 (v34 r) [1]
inductive St16 where
 | p1 (p : T34) (i : Int) (t2_ : T34) (out : T34)
noncomputable def G16 : St16 → Option T34
 | .p1 p i t2_ out =>
  (if (decide (i < ((ls p.Code).length : Int))) = true then
   (ix (ls p.Code) i >>= fun v_8 =>
    (if ((ls out.Code).length + (ls (some ([v_8] : List T52))).length) * 72 ≤ 140737488355328 then
     (G16 (.p1 p (IntKind.wrap .i64 (i + 1)) t2_ ({ out with Code := sapp out.Code (ls (some ([v_8] : List T52))) } : T34)))
    else none))
  else
   (some out))
 partial_fixpoint
def M16 (x : St16) (r : T34) : Prop := match x with
 | .p1 p i t2_ out => ∀ (tm : Fr) (st : Store) (io0 : Nat) (io1 : Nat), Frm tm [(1, .dptr (c34 p)), (2, .ptr io0 0), (3, .ptr io1 0), (4, AV.int .i64 i)] → SH st [pt io0 (.cells (c34 t2_)), bx34_2o io1 out] → W (X16 r) [.lp C16_10, .blk 0, .code C16_20] tm st
theorem w16 : ∀ (x : St16) (r : T34), G16 x = some r → M16 x r := by
 refine G16.partial_correctness (M16) ?_
 intro g ih x r hF
 cases x with
 | p1 p i t2_ out =>
  dsimp only at hF
  intro tm st io0 io1 hf hs
  refine en hf ?_
  refine lp ?_
  refine rn 1 rfl ?_
  refine W.o (e_faddrD rfl) ?_
  refine W.o (l1D rfl rfl) ?_
  refine W.o (e_len (rd_V rfl)) ?_
  refine rn 1 rfl ?_
  refine ci hF rfl (fun c_4 hF => ?_) (fun c_4 hF => ?_)
  · have hs := (hs.p 2 [1, 0] rfl)
    obtain ⟨j_5, hs⟩ := SH.bx1o hs
    refine rn 0 rfl ?_
    refine drn hs fun s_6 st h0 hs => ?_
    refine de rfl (e_faddr rfl (h0.g 0 rfl)) ?_
    refine de rfl (l1 rfl (h0.g 0 rfl) rfl) ?_
    refine de rfl (e_faddrD rfl) ?_
    refine de rfl (l1D rfl rfl) ?_
    obtain ⟨v_8, g_9, hF⟩ := bind_some hF
    refine dn 1 rfl ?_
    refine de rfl (e_iaddrL (rd_V rfl) rfl g_9) ?_
    refine de rfl (lND (s := c52 v_8) rfl rfl rfl) ?_
    refine dbs (f := v52) ([v_8] : List T52) hs 0 rfl rfl rfl rfl rfl rfl fun st hs => ?_
    refine dz ?_
    obtain ⟨g_11, hF⟩ := grd_some hF
    refine ap (ys := ls (some ([v_8] : List T52))) hs 2 rfl rfl (ae_rd (rd_W (o := (some ([v_8] : List T52))) (id := (List.length s_6 + 0)) rfl)) g_11 (fun _ => rfl) fun st b_12 hs => ?_
    refine W.o (e_faddr rfl (hs.g 1 rfl)) ?_
    refine so hs 1 rfl rfl rfl ownV_c rfl (cs' := (cI .i64) (out.Groups) ++ ((cI .i64) (out.Slots) ++ ([ownV 9 v52 (sapp out.Code (ls (some ([v_8] : List T52)))) b_12]))) rfl rfl fun st hs => ?_
    refine rn 3 rfl ?_
    have hs : SH st (bx34_2o io1 ({ out with Code := sapp out.Code (ls (some ([v_8] : List T52))) } : T34) :: _) := SH.bx1c b_12 (hs.p 4 [1, 1, 0, 0] rfl)
    exact ih (.p1 p (IntKind.wrap .i64 (i + 1)) t2_ ({ out with Code := sapp out.Code (ls (some ([v_8] : List T52))) } : T34)) _ hF _ _ io0 io1 ⟨rfl, rfl, rfl, rfl, trivial⟩ (hs.p 3 [2, 0] rfl)
  · refine rj 0 2 rfl ?_
    have hs := (hs.p 2 [1, 0] rfl)
    obtain ⟨j_13, hs⟩ := SH.bx1o hs
    refine frzO (off := 2) (es := 9) (g := v52) hs rfl (cs' := c34 out) rfl fun st hs => ?_
    refine rn 0 rfl ?_
    refine W.o (lN (s := c34 out) rfl (hs.g 0 rfl) rfl rfl) ?_
    refine sl hs 1 rfl rfl (LR.whole _ _) (c34_len _) rfl (c34_len _) (c34_one _) rfl fun st hs => ?_
    refine rn 0 rfl ?_
    cases hF
    exact rD (rl_cellN rfl (hs.g 1 rfl) (LR.whole _ _) (c34_len _) rl0) rfl
noncomputable def F16 (p : T34) : Option T34 :=
 (G16 (.p1 p 0 ({ Groups := 0, Slots := 0, Code := none } : T34) ({ Groups := p.Groups, Slots := p.Slots, Code := (none : Sl T52) } : T34)))
theorem d16 (p : T34) (r : T34) (hF : F16 p = some r) : DFun Try.prog noG 16 [v34 p] (v34 r) := by
 unfold F16 at hF
 refine bD k16 rfl ?_
 have hs : SH [] [] := SH.nil
 generalize ([] : Store) = st at hs ⊢
 refine rn 0 rfl ?_
 refine W.o (e_boxD (cs := c34 p) rfl rfl (c34_one _)) ?_
 refine al hs (cs := c34 ({ Groups := 0, Slots := 0, Code := none } : T34)) rfl fun st b_1 hs => ?_
 refine rn 0 rfl ?_
 refine W.o (e_faddrD rfl) ?_
 refine W.o (l1D rfl rfl) ?_
 refine W.o (e_faddrD rfl) ?_
 refine W.o (l1D rfl rfl) ?_
 refine W.o (bR (cs := c34 ({ Groups := p.Groups, Slots := p.Slots, Code := none } : T34)) rfl rfl) ?_
 have hs := hs.ownNil T52
 refine al hs (cs := (cI .i64) (({ Groups := 0, Slots := 0, Code := none } : T34).Groups) ++ ((cI .i64) (({ Groups := 0, Slots := 0, Code := none } : T34).Slots) ++ ([ownV 9 v52 (none : Sl T52) 0]))) rfl fun st b_2 hs => ?_
 refine sr hs 0 rfl rfl rfl (cs' := (cI .i64) (({ Groups := p.Groups, Slots := p.Slots, Code := none } : T34).Groups) ++ ((cI .i64) (({ Groups := p.Groups, Slots := p.Slots, Code := none } : T34).Slots) ++ ([ownV 9 v52 (none : Sl T52) 0]))) rfl rfl fun st hs => ?_
 refine rn 1 rfl ?_
 have hs : SH st (bx34_2o b_2 ({ Groups := p.Groups, Slots := p.Slots, Code := (none : Sl T52) } : T34) :: _) := SH.bx1c 0 (hs.p 3 [0, 0, 0] rfl)
 exact w16 (.p1 p 0 ({ Groups := 0, Slots := 0, Code := none } : T34) ({ Groups := p.Groups, Slots := p.Slots, Code := (none : Sl T52) } : T34)) _ hF _ _ b_1 b_2 ⟨rfl, rfl, rfl, rfl, trivial⟩ (hs.p 2 [1, 0] rfl)
/-! ### 18: paddock/paddockref10.Same -/
def C18_27 : ACode := .s (.ops [q 4 (.mv (.c (.bool false)))]) .ret
def C18_16 : ACode := .s (.s (.ops [q 27 (.mv 5), q 28 (.faddr 2 2), q 29 (.load1 28), q 30 (.len 29), q 31 (.binI .lss 27 30)]) (.cond 31 .skip (.exit 0))) (.s (.block 1 (.s (.draw [] 0 0 [q 34 (.faddr 2 2), q 35 (.load1 34), q 36 (.mv 5), q 37 (.iaddrL 9 35 36), q 38 (.loadN 9 37), q 39 (.faddr 2 3), q 40 (.load1 39), q 41 (.mv 5), q 42 (.iaddrL 9 40 41), q 43 (.loadN 9 42), q 44 (.eqA true [.i, .i, .i, .i, .i, .i, .i, .i, .i] 38 43)] []) (.cond 44 C18_27 .skip))) (.ops [q 32 (.mv 5), q 33 (.binI .add 32 (ki 1)), q 5 (.mv 33)]))
def C18_32 : ACode := .s (.ops [q 4 (.mv (.c (.bool true)))]) .ret
def C18_1 : ACode := .s (.ops [q 2 (.boxD 3 0), q 3 (.boxD 3 1), q 4 (.mv (.c (.bool false)))]) (.s (.s (.ops [q 6 (.faddr 0 2), q 7 (.load1 6), q 8 (.faddr 0 3), q 9 (.load1 8), q 10 (.binI .neq 7 9), q 11 (.mv 10), (q 12 (.faddr 1 2)).n 11, (q 13 (.load1 12)).n 11, (q 14 (.faddr 1 3)).n 11, (q 15 (.load1 14)).n 11, (q 16 (.binI .neq 13 15)).n 11, q 17 (.pick 11 (.c (.bool true)) 16), q 18 (.mv 17), (q 19 (.faddr 2 2)).n 18, (q 20 (.load1 19)).n 18, (q 21 (.len 20)).n 18, (q 22 (.faddr 2 3)).n 18, (q 23 (.load1 22)).n 18, (q 24 (.len 23)).n 18, (q 25 (.binI .neq 21 24)).n 18, q 26 (.pick 18 (.c (.bool true)) 25)]) (.cond 26 (.s (.ops [q 4 (.mv (.c (.bool false)))]) .ret) .skip)) (.s (.s (.ops [q 5 (.mv (ki 0))]) (.block 0 (.loop C18_16))) C18_32))
def R18 : List RA := [(.tmp 4)]
theorem k18 : compF Try.prog (muL [2, 3]) 18 = some ⟨45, C18_1, R18⟩ := by kernel_rfl
noncomputable abbrev X18 (r : Bool) : Cx := cD Try.prog noG 45 R18 (AV.bool r) [2, 3]
inductive St18 where
 | p1 (a : T34) (b : T34) (i : Int)
noncomputable def G18 : St18 → Option Bool
 | .p1 a b i =>
  (if (decide (i < ((ls a.Code).length : Int))) = true then
   (ix (ls a.Code) i >>= fun v_5 =>
    (ix (ls b.Code) i >>= fun v_7 =>
     (if (!decide (v_5 = v_7)) = true then
      (some false)
     else
      (G18 (.p1 a b (IntKind.wrap .i64 (i + 1)))))))
  else
   (some true))
 partial_fixpoint
def M18 (x : St18) (r : Bool) : Prop := match x with
 | .p1 a b i => ∀ (tm : Fr) (st : Store), Frm tm [(2, .dptr (c34 a)), (3, .dptr (c34 b)), (5, AV.int .i64 i)] → SH st [] → W (X18 r) [.lp C18_16, .blk 0, .code C18_32] tm st
theorem w18 : ∀ (x : St18) (r : Bool), G18 x = some r → M18 x r := by
 refine G18.partial_correctness (M18) ?_
 intro g ih x r hF
 cases x with
 | p1 a b i =>
  dsimp only at hF
  intro tm st hf hs
  refine en hf ?_
  refine lp ?_
  refine rn 1 rfl ?_
  refine W.o (e_faddrD rfl) ?_
  refine W.o (l1D rfl rfl) ?_
  refine W.o (e_len (rd_V rfl)) ?_
  refine rn 1 rfl ?_
  refine ci hF rfl (fun c_4 hF => ?_) (fun c_4 hF => ?_)
  · refine rn 0 rfl ?_
    have h0 := hs
    refine dr0 ?_
    refine de rfl (e_faddrD rfl) ?_
    refine de rfl (l1D rfl rfl) ?_
    obtain ⟨v_5, g_6, hF⟩ := bind_some hF
    refine dn 1 rfl ?_
    refine de rfl (e_iaddrL (rd_V rfl) rfl g_6) ?_
    refine de rfl (lND (s := c52 v_5) rfl rfl rfl) ?_
    refine de rfl (e_faddrD rfl) ?_
    refine de rfl (l1D rfl rfl) ?_
    obtain ⟨v_7, g_8, hF⟩ := bind_some hF
    refine dn 1 rfl ?_
    refine de rfl (e_iaddrL (rd_V rfl) rfl g_8) ?_
    refine de rfl (lND (s := c52 v_7) rfl rfl rfl) ?_
    refine de rfl (e_neA rfl rfl (c52_eq v_5 v_7)) ?_
    refine dz ?_
    refine rn 0 rfl ?_
    refine ci hF rfl (fun c_9 hF => ?_) (fun c_9 hF => ?_)
    · refine rn 1 rfl ?_
      cases hF
      exact rD (rlt rl0) rfl
    · refine rn 3 rfl ?_
      exact ih (.p1 a b (IntKind.wrap .i64 (i + 1))) _ hF _ _ ⟨rfl, rfl, rfl, trivial⟩ hs
  · refine rn 1 rfl ?_
    cases hF
    exact rD (rlt rl0) rfl
noncomputable def F18 (a : T34) (b : T34) : Option Bool :=
 (if (a.Groups != b.Groups) = true then
  (some false)
 else
  (if (a.Slots != b.Slots) = true then
   (some false)
  else
   (if (((ls a.Code).length : Int) != ((ls b.Code).length : Int)) = true then
    (some false)
   else
    (G18 (.p1 a b 0)))))
theorem d18 (a : T34) (b : T34) (r : Bool) (hF : F18 a b = some r) : DFun Try.prog noG 18 [v34 a, v34 b] (AV.bool r) := by
 unfold F18 at hF
 refine bD k18 rfl ?_
 have hs : SH [] [] := SH.nil
 generalize ([] : Store) = st at hs ⊢
 refine rn 0 rfl ?_
 refine W.o (e_boxD (cs := c34 a) rfl rfl (c34_one _)) ?_
 refine W.o (e_boxD (cs := c34 b) rfl rfl (c34_one _)) ?_
 refine rn 1 rfl ?_
 refine W.o (e_faddrD rfl) ?_
 refine W.o (l1D rfl rfl) ?_
 refine W.o (e_faddrD rfl) ?_
 refine W.o (l1D rfl rfl) ?_
 refine rn 2 rfl ?_
 refine bi hF (fun c_1 hF => ?_) (fun c_1 hF => ?_)
 · refine wfx 11 rfl c_1 ?_
   refine rn 15 rfl ?_
   refine ct rfl rfl ?_
   refine rn 1 rfl ?_
   cases hF
   exact rD (rlt rl0) rfl
 · refine wfx 11 rfl c_1 ?_
   refine W.on rfl rfl ?_
   refine W.o (e_faddrD rfl) ?_
   refine W.on rfl rfl ?_
   refine W.o (l1D rfl rfl) ?_
   refine W.on rfl rfl ?_
   refine W.o (e_faddrD rfl) ?_
   refine W.on rfl rfl ?_
   refine W.o (l1D rfl rfl) ?_
   refine rn 3 rfl ?_
   refine bi hF (fun c_2 hF => ?_) (fun c_2 hF => ?_)
   · refine wfx 18 rfl c_2 ?_
     refine rn 8 rfl ?_
     refine ct rfl rfl ?_
     refine rn 1 rfl ?_
     cases hF
     exact rD (rlt rl0) rfl
   · refine wfx 18 rfl c_2 ?_
     refine W.on rfl rfl ?_
     refine W.o (e_faddrD rfl) ?_
     refine W.on rfl rfl ?_
     refine W.o (l1D rfl rfl) ?_
     refine W.on rfl rfl ?_
     refine W.o (e_len (rd_V rfl)) ?_
     refine W.on rfl rfl ?_
     refine W.o (e_faddrD rfl) ?_
     refine W.on rfl rfl ?_
     refine W.o (l1D rfl rfl) ?_
     refine W.on rfl rfl ?_
     refine W.o (e_len (rd_V rfl)) ?_
     refine rn 2 rfl ?_
     refine ci hF rfl (fun c_3 hF => ?_) (fun c_3 hF => ?_)
     · refine rn 1 rfl ?_
       cases hF
       exact rD (rlt rl0) rfl
     · refine rn 1 rfl ?_
       exact w18 (.p1 a b 0) _ hF _ _ ⟨rfl, rfl, rfl, trivial⟩ hs
/-! ### 34: paddock/paddockref10.fits -/
def C34_20 : ACode := .ops [q 22 (.faddr 5 4), q 23 (.load1 22), q 24 (.faddr 5 7), q0 (.store 1 24 23)]
def C34_24 : ACode := .cond 25 .skip (.s (.ops [q 27 (.binI .eql 13 (ku 5)), q 25 (.mv 27)]) (.cond 25 .skip (.ops [q 28 (.binI .eql 13 (ku 9)), q 25 (.mv 28)])))
def C34_32 : ACode := .ops [q 29 (.faddr 6 4), q 30 (.load1 29), q 31 (.faddr 6 7), q0 (.store 1 31 30)]
def C34_46 : ACode := .ops [q 43 (.faddr 8 4), q 44 (.load1 43), q 45 (.faddr 8 7), q0 (.store 1 45 44)]
def C34_33 : ACode := .s (.ops [q 33 (.binI .eql 13 (ku 6)), q 32 (.mv 33)]) (.cond 32 (.s (.ops [q 34 (.faddr 6 4), q 35 (.load1 34), q 36 (.faddr 6 7), q0 (.store 1 36 35)]) (.ops [q 37 (.faddr 7 4), q 38 (.load1 37), q 39 (.faddr 7 7), q0 (.store 1 39 38)])) (.s (.s (.ops [q 41 (.binI .eql 13 (ku 7)), q 40 (.mv 41)]) (.cond 40 .skip (.ops [q 42 (.binI .eql 13 (ku 8)), q 40 (.mv 42)]))) (.cond 40 C34_46 (.s (.s (.ops [q 47 (.binI .eql 13 (ku 10)), q 46 (.mv 47)]) (.cond 46 .skip (.s (.ops [q 48 (.binI .eql 13 (ku 11)), q 46 (.mv 48)]) (.cond 46 .skip (.ops [q 49 (.binI .eql 13 (ku 12)), q 46 (.mv 49)]))))) (.cond 46 .skip (.s (.ops [q 6 (.mv (.c (.bool false)))]) .ret))))))
def C34_74 : ACode := .s (.ops [q 68 (.faddr 5 4), q 69 (.load1 68), q 70 (.binI .geq 69 (ki 0)), q 71 (.mv 70), (q 72 (.faddr 5 4)).y 71, (q 73 (.load1 72)).y 71, (q 74 (.faddr 2 3)).y 71, (q 75 (.load1 74)).y 71, (q 76 (.len 75)).y 71, (q 77 (.binI .lss 73 76)).y 71, q 78 (.pick 71 77 (.c (.bool false))), q 6 (.mv 78)]) .ret
def C34_82 : ACode := .s (.ops [q 87 (.faddr 8 4), q 88 (.load1 87), q 89 (.binI .geq 88 (ki 0)), q 90 (.mv 89), (q 91 (.faddr 8 4)).y 90, (q 92 (.load1 91)).y 90, (q 93 (.faddr 1 3)).y 90, (q 94 (.load1 93)).y 90, (q 95 (.binI .lss 92 94)).y 90, q 96 (.pick 90 95 (.c (.bool false))), q 6 (.mv 96)]) .ret
def C34_96 : ACode := .s (.ops [q 132 (.mv 8), q 133 (.un .not 132), q 134 (.mv 133), (q 135 (.faddr 6 4)).n 134, (q 136 (.load1 135)).n 134, (q 137 (.binI .geq 136 (ki 1))).n 134, (q 138 (.mv 137)).n 134, (q 139 (.faddr 6 4)).y 138, (q 140 (.load1 139)).y 138, (q 141 (.faddr 0 3)).y 138, (q 142 (.load1 141)).y 138, (q 143 (.binI .leq 140 142)).y 138, (q 144 (.pick 138 143 (.c (.bool false)))).n 134, q 145 (.pick 134 (.c (.bool true)) 144), q 6 (.mv 145)]) .ret
def C34_94 : ACode := .s (.ops [q 114 (.faddr 0 4), q 115 (.load1 114), q 116 (.binI .eql 115 (ku 4)), q 117 (.mv 116), (q 118 (.faddr 0 4)).n 117, (q 119 (.load1 118)).n 117, (q 120 (.binI .eql 119 (ku 5))).n 117, q 121 (.pick 117 (.c (.bool true)) 120), q 122 (.mv 121), (q 123 (.faddr 0 4)).n 122, (q 124 (.load1 123)).n 122, (q 125 (.binI .eql 124 (ku 9))).n 122, q 126 (.pick 122 (.c (.bool true)) 125), q 127 (.mv 126), (q 128 (.faddr 0 4)).n 127, (q 129 (.load1 128)).n 127, (q 130 (.binI .eql 129 (ku 6))).n 127, q 131 (.pick 127 (.c (.bool true)) 130), q 8 (.mv 131)]) C34_96
def C34_86 : ACode := .s (.s (.ops [q 97 (.faddr 0 4), q 98 (.load1 97), q 99 (.binI .eql 98 (ku 6)), q 100 (.mv 99), (q 101 (.faddr 7 4)).y 100, (q 102 (.load1 101)).y 100, (q 103 (.faddr 6 4)).y 100, (q 104 (.load1 103)).y 100, (q 105 (.binI .lss 102 104)).y 100, (q 106 (.mv 105)).y 100, (q 107 (.faddr 7 4)).n 106, (q 108 (.load1 107)).n 106, (q 109 (.faddr 0 3)).n 106, (q 110 (.load1 109)).n 106, (q 111 (.binI .gtr 108 110)).n 106, (q 112 (.pick 106 (.c (.bool true)) 111)).y 100, q 113 (.pick 100 112 (.c (.bool false)))]) (.cond 113 (.s (.ops [q 6 (.mv (.c (.bool false)))]) .ret) .skip)) C34_94
def C34_78 : ACode := .s (.s (.ops [q 79 (.faddr 0 4), q 80 (.load1 79), q 81 (.binI .eql 80 (ku 7)), q 82 (.mv 81), (q 83 (.faddr 0 4)).n 82, (q 84 (.load1 83)).n 82, (q 85 (.binI .eql 84 (ku 8))).n 82, q 86 (.pick 82 (.c (.bool true)) 85)]) (.cond 86 C34_82 .skip)) C34_86
def C34_62 : ACode := .s (.s (.ops [q 50 (.loadN 9 4), q 51 (.loadN 9 7), q 52 (.eqA true [.i, .i, .i, .i, .i, .i, .i, .i, .i] 50 51), q 53 (.mv 52), (q 54 (.mv 2)).n 53, (q 55 (.faddr 0 4)).n 53, (q 56 (.load1 55)).n 53, (q 57 (.binI .eql 56 (ku 12))).n 53, (q 58 (.eqB true 54 57)).n 53, q 59 (.pick 53 (.c (.bool true)) 58)]) (.cond 59 (.s (.ops [q 6 (.mv (.c (.bool false)))]) .ret) .skip)) (.s (.s (.ops [q 60 (.faddr 0 4), q 61 (.load1 60), q 62 (.binI .eql 61 (ku 2)), q 63 (.mv 62), (q 64 (.faddr 0 4)).n 63, (q 65 (.load1 64)).n 63, (q 66 (.binI .eql 65 (ku 3))).n 63, q 67 (.pick 63 (.c (.bool true)) 66)]) (.cond 67 C34_74 .skip)) C34_78)
def C34_1 : ACode := .s (.ops [q 3 (.boxD 3 0), q 4 (.boxD 9 1), q 6 (.mv (.c (.bool false)))]) (.s (.ops [q 9 (.faddr 0 4), q 10 (.load1 9), q 11 (.build [(.int .u8 0), (.int .u64 0), (.int .u64 0), (.int .u64 0), (.int .u64 0), (.int .i64 0), (.int .i64 0), (.int .i64 0), (.int .i64 0)] [(0, (1, 10))]), q 7 (.alloc [(.int .u8 0), (.int .u64 0), (.int .u64 0), (.int .u64 0), (.int .u64 0), (.int .i64 0), (.int .i64 0), (.int .i64 0), (.int .i64 0)]), q0 (.store 9 7 11)]) (.s (.s (.ops [q 12 (.faddr 0 4), q 13 (.load1 12)]) (.block 0 (.s (.ops [q 15 (.binI .eql 13 (ku 1)), q 14 (.mv 15)]) (.cond 14 (.ops [q 16 (.faddr 1 4), q 17 (.loadN 4 16), q 18 (.faddr 1 7), q0 (.store 4 18 17)]) (.s (.s (.ops [q 20 (.binI .eql 13 (ku 2)), q 19 (.mv 20)]) (.cond 19 .skip (.ops [q 21 (.binI .eql 13 (ku 3)), q 19 (.mv 21)]))) (.cond 19 C34_20 (.s (.s (.ops [q 26 (.binI .eql 13 (ku 4)), q 25 (.mv 26)]) C34_24) (.cond 25 C34_32 C34_33)))))))) C34_62))
def R34 : List RA := [(.tmp 6)]
theorem k34 : compF Try.prog (muL [3, 4]) 34 = some ⟨146, C34_1, R34⟩ := by kernel_rfl
noncomputable abbrev X34 (r : Bool) : Cx := cD Try.prog noG 146 R34 (AV.bool r) [3, 4]
inductive St34 where
 | p1 (last : Bool) (p : T34) (x_ : T52) (y : T52)
 | p2 (last : Bool) (p : T34) (x_ : T52) (y : T52)
 | p3 (last : Bool) (p : T34) (x_ : T52) (y : T52)
 | p4 (last : Bool) (p : T34) (x_ : T52) (y : T52)
 | p5 (p : T34) (x_ : T52)
 | p6 (p : T34) (x_ : T52)
 | p7 (p : T34) (x_ : T52)
 | p8 (p : T34) (x_ : T52) (grouped : Bool)
noncomputable def G34 : St34 → Option Bool
 | .p1 last p x_ y =>
  (if (!decide (x_ = y)) = true then
   (some false)
  else
   (if (!(last == (x_.Kind == 12))) = true then
    (some false)
   else
    (if (x_.Kind == 2) = true then
     (G34 (.p5 p x_))
    else
     (if (x_.Kind == 3) = true then
      (G34 (.p5 p x_))
     else
      (if (x_.Kind == 7) = true then
       (G34 (.p6 p x_))
      else
       (if (x_.Kind == 8) = true then
        (G34 (.p6 p x_))
       else
        (if (x_.Kind == 6) = true then
         (if (decide (x_.Last < x_.Group)) = true then
          (some false)
         else
          (if (decide (x_.Last > p.Groups)) = true then
           (some false)
          else
           (G34 (.p7 p x_))))
        else
         (G34 (.p7 p x_)))))))))
 | .p2 last p x_ y =>
  (G34 (.p1 last p x_ ({ y with To := x_.To } : T52)))
 | .p3 last p x_ y =>
  (G34 (.p1 last p x_ ({ y with Group := x_.Group } : T52)))
 | .p4 last p x_ y =>
  (G34 (.p1 last p x_ ({ y with Slot := x_.Slot } : T52)))
 | .p5 p x_ =>
  (if (decide (x_.To ≥ 0)) = true then
   (some (decide (x_.To < ((ls p.Code).length : Int))))
  else
   (some false))
 | .p6 p x_ =>
  (if (decide (x_.Slot ≥ 0)) = true then
   (some (decide (x_.Slot < p.Slots)))
  else
   (some false))
 | .p7 p x_ =>
  (if (x_.Kind == 4) = true then
   (G34 (.p8 p x_ true))
  else
   (if (x_.Kind == 5) = true then
    (G34 (.p8 p x_ true))
   else
    (if (x_.Kind == 9) = true then
     (G34 (.p8 p x_ true))
    else
     (G34 (.p8 p x_ (x_.Kind == 6))))))
 | .p8 p x_ grouped =>
  (if (!grouped) = true then
   (some true)
  else
   (if (decide (x_.Group ≥ 1)) = true then
    (some (decide (x_.Group ≤ p.Groups)))
   else
    (some false)))
 partial_fixpoint
def M34 (x : St34) (r : Bool) : Prop := match x with
 | .p1 last p x_ y => ∀ (tm : Fr) (st : Store) (io0 : Nat), Frm tm [(2, AV.bool last), (3, .dptr (c34 p)), (4, .dptr (c52 x_)), (7, .ptr io0 0)] → SH st [pt io0 (.cells (c52 y))] → W (X34 r) [.code C34_62] tm st
 | .p2 last p x_ y => ∀ (tm : Fr) (st : Store) (io0 : Nat), Frm tm [(2, AV.bool last), (3, .dptr (c34 p)), (4, .dptr (c52 x_)), (7, .ptr io0 0)] → SH st [pt io0 (.cells (c52 y))] → W (X34 r) [.code C34_20, .blk 0, .code C34_62] tm st
 | .p3 last p x_ y => ∀ (tm : Fr) (st : Store) (io0 : Nat), Frm tm [(2, AV.bool last), (3, .dptr (c34 p)), (4, .dptr (c52 x_)), (7, .ptr io0 0)] → SH st [pt io0 (.cells (c52 y))] → W (X34 r) [.code C34_32, .blk 0, .code C34_62] tm st
 | .p4 last p x_ y => ∀ (tm : Fr) (st : Store) (io0 : Nat), Frm tm [(2, AV.bool last), (3, .dptr (c34 p)), (4, .dptr (c52 x_)), (7, .ptr io0 0)] → SH st [pt io0 (.cells (c52 y))] → W (X34 r) [.code C34_46, .blk 0, .code C34_62] tm st
 | .p5 p x_ => ∀ (tm : Fr) (st : Store), Frm tm [(3, .dptr (c34 p)), (4, .dptr (c52 x_))] → SH st [] → W (X34 r) [.code C34_74, .code C34_78] tm st
 | .p6 p x_ => ∀ (tm : Fr) (st : Store), Frm tm [(3, .dptr (c34 p)), (4, .dptr (c52 x_))] → SH st [] → W (X34 r) [.code C34_82, .code C34_86] tm st
 | .p7 p x_ => ∀ (tm : Fr) (st : Store), Frm tm [(3, .dptr (c34 p)), (4, .dptr (c52 x_))] → SH st [] → W (X34 r) [.code C34_94] tm st
 | .p8 p x_ grouped => ∀ (tm : Fr) (st : Store), Frm tm [(3, .dptr (c34 p)), (4, .dptr (c52 x_)), (8, AV.bool grouped)] → SH st [] → W (X34 r) [.code C34_96] tm st
theorem w34 : ∀ (x : St34) (r : Bool), G34 x = some r → M34 x r := by
 refine G34.partial_correctness (M34) ?_
 intro g ih x r hF
 cases x with
 | p1 last p x_ y =>
  dsimp only at hF
  intro tm st io0 hf hs
  refine en hf ?_
  refine rn 0 rfl ?_
  refine W.o (lND (s := c52 x_) rfl rfl rfl) ?_
  refine W.o (lN (s := c52 y) rfl (hs.g 0 rfl) rfl rfl) ?_
  refine W.o (e_neA rfl rfl (c52_eq x_ y)) ?_
  refine rn 1 rfl ?_
  refine bi hF (fun c_14 hF => ?_) (fun c_14 hF => ?_)
  · refine wfx 53 rfl c_14 ?_
    refine rn 6 rfl ?_
    refine ct rfl rfl ?_
    refine rn 1 rfl ?_
    cases hF
    exact rD (rlt rl0) rfl
  · refine wfx 53 rfl c_14 ?_
    refine rn 1 rfl ?_
    refine W.on rfl rfl ?_
    refine W.o (e_faddrD rfl) ?_
    refine W.on rfl rfl ?_
    refine W.o (l1D rfl rfl) ?_
    refine rn 3 rfl ?_
    refine ci hF rfl (fun c_15 hF => ?_) (fun c_15 hF => ?_)
    · refine rn 1 rfl ?_
      cases hF
      exact rD (rlt rl0) rfl
    · refine rn 0 rfl ?_
      refine W.o (e_faddrD rfl) ?_
      refine W.o (l1D rfl rfl) ?_
      refine rn 2 rfl ?_
      refine bi hF (fun c_16 hF => ?_) (fun c_16 hF => ?_)
      · refine wfx 63 rfl c_16 ?_
        refine rn 4 rfl ?_
        refine ct rfl rfl ?_
        exact ih (.p5 p x_) _ hF _ _ ⟨rfl, rfl, trivial⟩ (hs.p 1 [] rfl)
      · refine wfx 63 rfl c_16 ?_
        refine W.on rfl rfl ?_
        refine W.o (e_faddrD rfl) ?_
        refine W.on rfl rfl ?_
        refine W.o (l1D rfl rfl) ?_
        refine rn 2 rfl ?_
        refine ci hF rfl (fun c_17 hF => ?_) (fun c_17 hF => ?_)
        · exact ih (.p5 p x_) _ hF _ _ ⟨rfl, rfl, trivial⟩ (hs.p 1 [] rfl)
        · refine rn 0 rfl ?_
          refine W.o (e_faddrD rfl) ?_
          refine W.o (l1D rfl rfl) ?_
          refine rn 2 rfl ?_
          refine bi hF (fun c_18 hF => ?_) (fun c_18 hF => ?_)
          · refine wfx 82 rfl c_18 ?_
            refine rn 4 rfl ?_
            refine ct rfl rfl ?_
            exact ih (.p6 p x_) _ hF _ _ ⟨rfl, rfl, trivial⟩ (hs.p 1 [] rfl)
          · refine wfx 82 rfl c_18 ?_
            refine W.on rfl rfl ?_
            refine W.o (e_faddrD rfl) ?_
            refine W.on rfl rfl ?_
            refine W.o (l1D rfl rfl) ?_
            refine rn 2 rfl ?_
            refine ci hF rfl (fun c_19 hF => ?_) (fun c_19 hF => ?_)
            · exact ih (.p6 p x_) _ hF _ _ ⟨rfl, rfl, trivial⟩ (hs.p 1 [] rfl)
            · refine rn 0 rfl ?_
              refine W.o (e_faddrD rfl) ?_
              refine W.o (l1D rfl rfl) ?_
              refine rn 2 rfl ?_
              refine bi hF (fun c_20 hF => ?_) (fun c_20 hF => ?_)
              · refine wfx 100 rfl c_20 ?_
                refine W.on rfl rfl ?_
                refine W.o (e_faddrD rfl) ?_
                refine W.on rfl rfl ?_
                refine W.o (l1D rfl rfl) ?_
                refine W.on rfl rfl ?_
                refine W.o (e_faddrD rfl) ?_
                refine W.on rfl rfl ?_
                refine W.o (l1D rfl rfl) ?_
                refine rn 2 rfl ?_
                refine bi hF (fun c_21 hF => ?_) (fun c_21 hF => ?_)
                · refine wfx 106 rfl c_21 ?_
                  refine rn 7 rfl ?_
                  refine ct rfl rfl ?_
                  refine rn 1 rfl ?_
                  cases hF
                  exact rD (rlt rl0) rfl
                · refine wfx 106 rfl c_21 ?_
                  refine W.on rfl rfl ?_
                  refine W.o (e_faddrD rfl) ?_
                  refine W.on rfl rfl ?_
                  refine W.o (l1D rfl rfl) ?_
                  refine W.on rfl rfl ?_
                  refine W.o (e_faddrD rfl) ?_
                  refine W.on rfl rfl ?_
                  refine W.o (l1D rfl rfl) ?_
                  refine rn 3 rfl ?_
                  refine ci hF rfl (fun c_22 hF => ?_) (fun c_22 hF => ?_)
                  · refine rn 1 rfl ?_
                    cases hF
                    exact rD (rlt rl0) rfl
                  · refine rj 0 1 rfl ?_
                    exact ih (.p7 p x_) _ hF _ _ ⟨rfl, rfl, trivial⟩ (hs.p 1 [] rfl)
              · refine wfx 100 rfl c_20 ?_
                refine rn 13 rfl ?_
                refine cf rfl rfl ?_
                refine rj 0 1 rfl ?_
                exact ih (.p7 p x_) _ hF _ _ ⟨rfl, rfl, trivial⟩ (hs.p 1 [] rfl)
 | p2 last p x_ y =>
  dsimp only at hF
  intro tm st io0 hf hs
  refine en hf ?_
  refine rn 0 rfl ?_
  refine W.o (e_faddrD rfl) ?_
  refine W.o (l1D rfl rfl) ?_
  refine W.o (e_faddr rfl (hs.g 0 rfl)) ?_
  refine sr hs 0 rfl rfl rfl (cs' := c52 ({ y with To := x_.To } : T52)) rfl rfl fun st hs => ?_
  refine rj 0 2 rfl ?_
  exact ih (.p1 last p x_ ({ y with To := x_.To } : T52)) _ hF _ _ io0 ⟨rfl, rfl, rfl, rfl, trivial⟩ hs
 | p3 last p x_ y =>
  dsimp only at hF
  intro tm st io0 hf hs
  refine en hf ?_
  refine rn 0 rfl ?_
  refine W.o (e_faddrD rfl) ?_
  refine W.o (l1D rfl rfl) ?_
  refine W.o (e_faddr rfl (hs.g 0 rfl)) ?_
  refine sr hs 0 rfl rfl rfl (cs' := c52 ({ y with Group := x_.Group } : T52)) rfl rfl fun st hs => ?_
  refine rj 0 2 rfl ?_
  exact ih (.p1 last p x_ ({ y with Group := x_.Group } : T52)) _ hF _ _ io0 ⟨rfl, rfl, rfl, rfl, trivial⟩ hs
 | p4 last p x_ y =>
  dsimp only at hF
  intro tm st io0 hf hs
  refine en hf ?_
  refine rn 0 rfl ?_
  refine W.o (e_faddrD rfl) ?_
  refine W.o (l1D rfl rfl) ?_
  refine W.o (e_faddr rfl (hs.g 0 rfl)) ?_
  refine sr hs 0 rfl rfl rfl (cs' := c52 ({ y with Slot := x_.Slot } : T52)) rfl rfl fun st hs => ?_
  refine rj 0 2 rfl ?_
  exact ih (.p1 last p x_ ({ y with Slot := x_.Slot } : T52)) _ hF _ _ io0 ⟨rfl, rfl, rfl, rfl, trivial⟩ hs
 | p5 p x_ =>
  dsimp only at hF
  intro tm st hf hs
  refine en hf ?_
  refine rn 0 rfl ?_
  refine W.o (e_faddrD rfl) ?_
  refine W.o (l1D rfl rfl) ?_
  refine rn 2 rfl ?_
  refine bi hF (fun c_23 hF => ?_) (fun c_23 hF => ?_)
  · refine wfx 71 rfl c_23 ?_
    refine W.on rfl rfl ?_
    refine W.o (e_faddrD rfl) ?_
    refine W.on rfl rfl ?_
    refine W.o (l1D rfl rfl) ?_
    refine W.on rfl rfl ?_
    refine W.o (e_faddrD rfl) ?_
    refine W.on rfl rfl ?_
    refine W.o (l1D rfl rfl) ?_
    refine W.on rfl rfl ?_
    refine W.o (e_len (rd_V rfl)) ?_
    refine rn 3 rfl ?_
    cases hF
    exact rD (rlt rl0) rfl
  · refine wfx 71 rfl c_23 ?_
    refine rn 8 rfl ?_
    cases hF
    exact rD (rlt rl0) rfl
 | p6 p x_ =>
  dsimp only at hF
  intro tm st hf hs
  refine en hf ?_
  refine rn 0 rfl ?_
  refine W.o (e_faddrD rfl) ?_
  refine W.o (l1D rfl rfl) ?_
  refine rn 2 rfl ?_
  refine bi hF (fun c_24 hF => ?_) (fun c_24 hF => ?_)
  · refine wfx 90 rfl c_24 ?_
    refine W.on rfl rfl ?_
    refine W.o (e_faddrD rfl) ?_
    refine W.on rfl rfl ?_
    refine W.o (l1D rfl rfl) ?_
    refine W.on rfl rfl ?_
    refine W.o (e_faddrD rfl) ?_
    refine W.on rfl rfl ?_
    refine W.o (l1D rfl rfl) ?_
    refine rn 3 rfl ?_
    cases hF
    exact rD (rlt rl0) rfl
  · refine wfx 90 rfl c_24 ?_
    refine rn 7 rfl ?_
    cases hF
    exact rD (rlt rl0) rfl
 | p7 p x_ =>
  dsimp only at hF
  intro tm st hf hs
  refine en hf ?_
  refine rn 0 rfl ?_
  refine W.o (e_faddrD rfl) ?_
  refine W.o (l1D rfl rfl) ?_
  refine rn 2 rfl ?_
  refine bi hF (fun c_25 hF => ?_) (fun c_25 hF => ?_)
  · refine wfx 117 rfl c_25 ?_
    refine rj 15 1 rfl ?_
    exact ih (.p8 p x_ true) _ hF _ _ ⟨rfl, rfl, rfl, trivial⟩ hs
  · refine wfx 117 rfl c_25 ?_
    refine W.on rfl rfl ?_
    refine W.o (e_faddrD rfl) ?_
    refine W.on rfl rfl ?_
    refine W.o (l1D rfl rfl) ?_
    refine rn 3 rfl ?_
    refine bi hF (fun c_26 hF => ?_) (fun c_26 hF => ?_)
    · refine wfx 122 rfl c_26 ?_
      refine rj 10 1 rfl ?_
      exact ih (.p8 p x_ true) _ hF _ _ ⟨rfl, rfl, rfl, trivial⟩ hs
    · refine wfx 122 rfl c_26 ?_
      refine W.on rfl rfl ?_
      refine W.o (e_faddrD rfl) ?_
      refine W.on rfl rfl ?_
      refine W.o (l1D rfl rfl) ?_
      refine rn 3 rfl ?_
      refine bi hF (fun c_27 hF => ?_) (fun c_27 hF => ?_)
      · refine wfx 127 rfl c_27 ?_
        refine rj 5 1 rfl ?_
        exact ih (.p8 p x_ true) _ hF _ _ ⟨rfl, rfl, rfl, trivial⟩ hs
      · refine wfx 127 rfl c_27 ?_
        refine W.on rfl rfl ?_
        refine W.o (e_faddrD rfl) ?_
        refine W.on rfl rfl ?_
        refine W.o (l1D rfl rfl) ?_
        refine rj 3 1 rfl ?_
        exact ih (.p8 p x_ (x_.Kind == 6)) _ hF _ _ ⟨rfl, rfl, rfl, trivial⟩ hs
 | p8 p x_ grouped =>
  dsimp only at hF
  intro tm st hf hs
  refine en hf ?_
  refine rn 3 rfl ?_
  refine bi hF (fun c_28 hF => ?_) (fun c_28 hF => ?_)
  · refine wfx 134 rfl c_28 ?_
    refine rn 12 rfl ?_
    cases hF
    exact rD (rlt rl0) rfl
  · refine wfx 134 rfl c_28 ?_
    refine W.on rfl rfl ?_
    refine W.o (e_faddrD rfl) ?_
    refine W.on rfl rfl ?_
    refine W.o (l1D rfl rfl) ?_
    refine rn 2 rfl ?_
    refine bi hF (fun c_29 hF => ?_) (fun c_29 hF => ?_)
    · refine wfx 138 rfl c_29 ?_
      refine W.on rfl rfl ?_
      refine W.o (e_faddrD rfl) ?_
      refine W.on rfl rfl ?_
      refine W.o (l1D rfl rfl) ?_
      refine W.on rfl rfl ?_
      refine W.o (e_faddrD rfl) ?_
      refine W.on rfl rfl ?_
      refine W.o (l1D rfl rfl) ?_
      refine rn 4 rfl ?_
      cases hF
      exact rD (rlt rl0) rfl
    · refine wfx 138 rfl c_29 ?_
      refine rn 8 rfl ?_
      cases hF
      exact rD (rlt rl0) rfl
noncomputable def F34 (p : T34) (x_ : T52) (last : Bool) : Option Bool :=
 (if (x_.Kind == 1) = true then
  (G34 (.p1 last p x_ ({ Kind := x_.Kind, Set := x_.Set, To := 0, Group := 0, Last := 0, Slot := 0 } : T52)))
 else
  (if (x_.Kind == 2) = true then
   (G34 (.p2 last p x_ ({ Kind := x_.Kind, Set := (Arr.rep 4 0), To := 0, Group := 0, Last := 0, Slot := 0 } : T52)))
  else
   (if (x_.Kind == 3) = true then
    (G34 (.p2 last p x_ ({ Kind := x_.Kind, Set := (Arr.rep 4 0), To := 0, Group := 0, Last := 0, Slot := 0 } : T52)))
   else
    (if (x_.Kind == 4) = true then
     (G34 (.p3 last p x_ ({ Kind := x_.Kind, Set := (Arr.rep 4 0), To := 0, Group := 0, Last := 0, Slot := 0 } : T52)))
    else
     (if (x_.Kind == 5) = true then
      (G34 (.p3 last p x_ ({ Kind := x_.Kind, Set := (Arr.rep 4 0), To := 0, Group := 0, Last := 0, Slot := 0 } : T52)))
     else
      (if (x_.Kind == 9) = true then
       (G34 (.p3 last p x_ ({ Kind := x_.Kind, Set := (Arr.rep 4 0), To := 0, Group := 0, Last := 0, Slot := 0 } : T52)))
      else
       (if (x_.Kind == 6) = true then
        (G34 (.p1 last p x_ ({ Kind := x_.Kind, Set := (Arr.rep 4 0), To := 0, Group := x_.Group, Last := x_.Last, Slot := 0 } : T52)))
       else
        (if (x_.Kind == 7) = true then
         (G34 (.p4 last p x_ ({ Kind := x_.Kind, Set := (Arr.rep 4 0), To := 0, Group := 0, Last := 0, Slot := 0 } : T52)))
        else
         (if (x_.Kind == 8) = true then
          (G34 (.p4 last p x_ ({ Kind := x_.Kind, Set := (Arr.rep 4 0), To := 0, Group := 0, Last := 0, Slot := 0 } : T52)))
         else
          (if (x_.Kind == 10) = true then
           (G34 (.p1 last p x_ ({ Kind := x_.Kind, Set := (Arr.rep 4 0), To := 0, Group := 0, Last := 0, Slot := 0 } : T52)))
          else
           (if (x_.Kind == 11) = true then
            (G34 (.p1 last p x_ ({ Kind := x_.Kind, Set := (Arr.rep 4 0), To := 0, Group := 0, Last := 0, Slot := 0 } : T52)))
           else
            (if (x_.Kind == 12) = true then
             (G34 (.p1 last p x_ ({ Kind := x_.Kind, Set := (Arr.rep 4 0), To := 0, Group := 0, Last := 0, Slot := 0 } : T52)))
            else
             (some false)))))))))))))
theorem d34 (p : T34) (x_ : T52) (last : Bool) (r : Bool) (hF : F34 p x_ last = some r) : DFun Try.prog noG 34 [v34 p, v52 x_, AV.bool last] (AV.bool r) := by
 unfold F34 at hF
 refine bD k34 rfl ?_
 have hs : SH [] [] := SH.nil
 generalize ([] : Store) = st at hs ⊢
 refine rn 0 rfl ?_
 refine W.o (e_boxD (cs := c34 p) rfl rfl (c34_one _)) ?_
 refine W.o (e_boxD (cs := c52 x_) rfl rfl rfl) ?_
 refine rn 1 rfl ?_
 refine W.o (e_faddrD rfl) ?_
 refine W.o (l1D rfl rfl) ?_
 refine W.o (bR (cs := c52 ({ Kind := x_.Kind, Set := (Arr.rep 4 0), To := 0, Group := 0, Last := 0, Slot := 0 } : T52)) rfl rfl) ?_
 refine al hs (cs := c52 ({ Kind := 0, Set := (Arr.rep 4 0), To := 0, Group := 0, Last := 0, Slot := 0 } : T52)) rfl fun st b_1 hs => ?_
 refine sr hs 0 rfl rfl rfl (cs' := c52 ({ Kind := x_.Kind, Set := (Arr.rep 4 0), To := 0, Group := 0, Last := 0, Slot := 0 } : T52)) rfl rfl fun st hs => ?_
 refine rn 0 rfl ?_
 refine W.o (e_faddrD rfl) ?_
 refine W.o (l1D rfl rfl) ?_
 refine rn 2 rfl ?_
 refine ci hF rfl (fun c_2 hF => ?_) (fun c_2 hF => ?_)
 · refine rn 0 rfl ?_
   refine W.o (e_faddrD rfl) ?_
   refine W.o (lND (s := c24 x_.Set) rfl rfl rfl) ?_
   refine W.o (e_faddr rfl (hs.g 0 rfl)) ?_
   refine sr hs 0 rfl rfl rfl (cs' := c52 ({ Kind := x_.Kind, Set := x_.Set, To := 0, Group := 0, Last := 0, Slot := 0 } : T52)) rfl rfl fun st hs => ?_
   refine rj 0 2 rfl ?_
   exact w34 (.p1 last p x_ ({ Kind := x_.Kind, Set := x_.Set, To := 0, Group := 0, Last := 0, Slot := 0 } : T52)) _ hF _ _ b_1 ⟨rfl, rfl, rfl, rfl, trivial⟩ hs
 · refine rn 2 rfl ?_
   refine ci hF rfl (fun c_3 hF => ?_) (fun c_3 hF => ?_)
   · refine rn 0 rfl ?_
     refine ct rfl c_3 ?_
     exact w34 (.p2 last p x_ ({ Kind := x_.Kind, Set := (Arr.rep 4 0), To := 0, Group := 0, Last := 0, Slot := 0 } : T52)) _ hF _ _ b_1 ⟨rfl, rfl, rfl, rfl, trivial⟩ hs
   · refine rn 2 rfl ?_
     refine ci hF rfl (fun c_4 hF => ?_) (fun c_4 hF => ?_)
     · exact w34 (.p2 last p x_ ({ Kind := x_.Kind, Set := (Arr.rep 4 0), To := 0, Group := 0, Last := 0, Slot := 0 } : T52)) _ hF _ _ b_1 ⟨rfl, rfl, rfl, rfl, trivial⟩ hs
     · refine rn 2 rfl ?_
       refine ci hF rfl (fun c_5 hF => ?_) (fun c_5 hF => ?_)
       · refine rn 0 rfl ?_
         refine ct rfl c_5 ?_
         exact w34 (.p3 last p x_ ({ Kind := x_.Kind, Set := (Arr.rep 4 0), To := 0, Group := 0, Last := 0, Slot := 0 } : T52)) _ hF _ _ b_1 ⟨rfl, rfl, rfl, rfl, trivial⟩ hs
       · refine rn 2 rfl ?_
         refine ci hF rfl (fun c_6 hF => ?_) (fun c_6 hF => ?_)
         · refine rn 0 rfl ?_
           refine ct rfl c_6 ?_
           exact w34 (.p3 last p x_ ({ Kind := x_.Kind, Set := (Arr.rep 4 0), To := 0, Group := 0, Last := 0, Slot := 0 } : T52)) _ hF _ _ b_1 ⟨rfl, rfl, rfl, rfl, trivial⟩ hs
         · refine rn 2 rfl ?_
           refine ci hF rfl (fun c_7 hF => ?_) (fun c_7 hF => ?_)
           · exact w34 (.p3 last p x_ ({ Kind := x_.Kind, Set := (Arr.rep 4 0), To := 0, Group := 0, Last := 0, Slot := 0 } : T52)) _ hF _ _ b_1 ⟨rfl, rfl, rfl, rfl, trivial⟩ hs
           · refine rn 2 rfl ?_
             refine ci hF rfl (fun c_8 hF => ?_) (fun c_8 hF => ?_)
             · refine rn 0 rfl ?_
               refine W.o (e_faddrD rfl) ?_
               refine W.o (l1D rfl rfl) ?_
               refine W.o (e_faddr rfl (hs.g 0 rfl)) ?_
               refine sr hs 0 rfl rfl rfl (cs' := c52 ({ Kind := x_.Kind, Set := (Arr.rep 4 0), To := 0, Group := x_.Group, Last := 0, Slot := 0 } : T52)) rfl rfl fun st hs => ?_
               refine rn 0 rfl ?_
               refine W.o (e_faddrD rfl) ?_
               refine W.o (l1D rfl rfl) ?_
               refine W.o (e_faddr rfl (hs.g 0 rfl)) ?_
               refine sr hs 0 rfl rfl rfl (cs' := c52 ({ Kind := x_.Kind, Set := (Arr.rep 4 0), To := 0, Group := x_.Group, Last := x_.Last, Slot := 0 } : T52)) rfl rfl fun st hs => ?_
               refine rj 0 2 rfl ?_
               exact w34 (.p1 last p x_ ({ Kind := x_.Kind, Set := (Arr.rep 4 0), To := 0, Group := x_.Group, Last := x_.Last, Slot := 0 } : T52)) _ hF _ _ b_1 ⟨rfl, rfl, rfl, rfl, trivial⟩ hs
             · refine rn 2 rfl ?_
               refine ci hF rfl (fun c_9 hF => ?_) (fun c_9 hF => ?_)
               · refine rn 0 rfl ?_
                 refine ct rfl c_9 ?_
                 exact w34 (.p4 last p x_ ({ Kind := x_.Kind, Set := (Arr.rep 4 0), To := 0, Group := 0, Last := 0, Slot := 0 } : T52)) _ hF _ _ b_1 ⟨rfl, rfl, rfl, rfl, trivial⟩ hs
               · refine rn 2 rfl ?_
                 refine ci hF rfl (fun c_10 hF => ?_) (fun c_10 hF => ?_)
                 · exact w34 (.p4 last p x_ ({ Kind := x_.Kind, Set := (Arr.rep 4 0), To := 0, Group := 0, Last := 0, Slot := 0 } : T52)) _ hF _ _ b_1 ⟨rfl, rfl, rfl, rfl, trivial⟩ hs
                 · refine rn 2 rfl ?_
                   refine ci hF rfl (fun c_11 hF => ?_) (fun c_11 hF => ?_)
                   · refine rn 0 rfl ?_
                     refine ct rfl c_11 ?_
                     refine rj 0 2 rfl ?_
                     exact w34 (.p1 last p x_ ({ Kind := x_.Kind, Set := (Arr.rep 4 0), To := 0, Group := 0, Last := 0, Slot := 0 } : T52)) _ hF _ _ b_1 ⟨rfl, rfl, rfl, rfl, trivial⟩ hs
                   · refine rn 2 rfl ?_
                     refine ci hF rfl (fun c_12 hF => ?_) (fun c_12 hF => ?_)
                     · refine rn 0 rfl ?_
                       refine ct rfl c_12 ?_
                       refine rj 0 2 rfl ?_
                       exact w34 (.p1 last p x_ ({ Kind := x_.Kind, Set := (Arr.rep 4 0), To := 0, Group := 0, Last := 0, Slot := 0 } : T52)) _ hF _ _ b_1 ⟨rfl, rfl, rfl, rfl, trivial⟩ hs
                     · refine rn 2 rfl ?_
                       refine ci hF rfl (fun c_13 hF => ?_) (fun c_13 hF => ?_)
                       · refine rj 0 2 rfl ?_
                         exact w34 (.p1 last p x_ ({ Kind := x_.Kind, Set := (Arr.rep 4 0), To := 0, Group := 0, Last := 0, Slot := 0 } : T52)) _ hF _ _ b_1 ⟨rfl, rfl, rfl, rfl, trivial⟩ hs
                       · refine rn 1 rfl ?_
                         cases hF
                         exact rD (rlt rl0) rfl
/-! ### 19: paddock/paddockref10.Right -/
def O19_5o1 : List AOp := q 28 (.mv 27) :: (q 29 (.faddr 2 1)).n 28 :: (q 30 (.load1 29)).n 28 :: (q 31 (.len 30)).n 28 :: (q 32 (.binI .gtr 31 (ki 16384))).n 28 :: q 33 (.pick 28 (.c (.bool true)) 32) :: []
def O19_5o0 : List AOp := q 4 (.faddr 0 1) :: q 5 (.load1 4) :: q 6 (.binI .lss 5 (ki 0)) :: q 7 (.mv 6) :: (q 8 (.faddr 0 1)).n 7 :: (q 9 (.load1 8)).n 7 :: (q 10 (.binI .gtr 9 (ki 99))).n 7 :: q 11 (.pick 7 (.c (.bool true)) 10) :: q 12 (.mv 11) :: (q 13 (.faddr 1 1)).n 12 :: (q 14 (.load1 13)).n 12 :: (q 15 (.binI .lss 14 (ki 0))).n 12 :: q 16 (.pick 12 (.c (.bool true)) 15) :: q 17 (.mv 16) :: (q 18 (.faddr 1 1)).n 17 :: (q 19 (.load1 18)).n 17 :: (q 20 (.binI .gtr 19 (ki 16384))).n 17 :: q 21 (.pick 17 (.c (.bool true)) 20) :: q 22 (.mv 21) :: (q 23 (.faddr 2 1)).n 22 :: (q 24 (.load1 23)).n 22 :: (q 25 (.len 24)).n 22 :: (q 26 (.binI .lss 25 (ki 1))).n 22 :: q 27 (.pick 22 (.c (.bool true)) 26) :: O19_5o1
def C19_27 : ACode := .s (.ops [q 2 (.mv (.c (.bool false)))]) .ret
def C19_16 : ACode := .s (.s (.ops [q 34 (.mv 3), q 35 (.faddr 2 1), q 36 (.load1 35), q 37 (.len 36), q 38 (.binI .lss 34 37)]) (.cond 38 .skip (.exit 0))) (.s (.block 1 (.s (.draw [] 0 0 [q 41 (.loadN 3 1), q 42 (.faddr 2 1), q 43 (.load1 42), q 44 (.mv 3), q 45 (.iaddrL 9 43 44), q 46 (.loadN 9 45), q 47 (.mv 3), q 48 (.faddr 2 1), q 49 (.load1 48), q 50 (.len 49), q 51 (.binI .sub 50 (ki 1)), q 52 (.binI .eql 47 51)] [qc 53 34 [41, 46, 52], q 54 (.un .not 53)]) (.cond 54 C19_27 .skip))) (.ops [q 39 (.mv 3), q 40 (.binI .add 39 (ki 1)), q 3 (.mv 40)]))
def C19_32 : ACode := .s (.ops [q 2 (.mv (.c (.bool true)))]) .ret
def C19_1 : ACode := .s (.ops [q 1 (.boxD 3 0), q 2 (.mv (.c (.bool false)))]) (.s (.s (.ops O19_5o0) (.cond 33 (.s (.ops [q 2 (.mv (.c (.bool false)))]) .ret) .skip)) (.s (.s (.ops [q 3 (.mv (ki 0))]) (.block 0 (.loop C19_16))) C19_32))
def R19 : List RA := [(.tmp 2)]
theorem k19 : compF Try.prog (muL [1]) 19 = some ⟨55, C19_1, R19⟩ := by kernel_rfl
noncomputable abbrev X19 (r : Bool) : Cx := cD Try.prog noG 55 R19 (AV.bool r) [1]
inductive St19 where
 | p1 (p : T34) (i : Int)
noncomputable def G19 : St19 → Option Bool
 | .p1 p i =>
  (if (decide (i < ((ls p.Code).length : Int))) = true then
   (ix (ls p.Code) i >>= fun v_8 =>
    (F34 p v_8 (i == (IntKind.wrap .i64 (((ls p.Code).length : Int) - 1))) >>= fun r_10 =>
     (if (!r_10) = true then
      (some false)
     else
      (G19 (.p1 p (IntKind.wrap .i64 (i + 1)))))))
  else
   (some true))
 partial_fixpoint
def M19 (x : St19) (r : Bool) : Prop := match x with
 | .p1 p i => ∀ (tm : Fr) (st : Store), Frm tm [(1, .dptr (c34 p)), (3, AV.int .i64 i)] → SH st [] → W (X19 r) [.lp C19_16, .blk 0, .code C19_32] tm st
theorem w19 : ∀ (x : St19) (r : Bool), G19 x = some r → M19 x r := by
 refine G19.partial_correctness (M19) ?_
 intro g ih x r hF
 cases x with
 | p1 p i =>
  dsimp only at hF
  intro tm st hf hs
  refine en hf ?_
  refine lp ?_
  refine rn 1 rfl ?_
  refine W.o (e_faddrD rfl) ?_
  refine W.o (l1D rfl rfl) ?_
  refine W.o (e_len (rd_V rfl)) ?_
  refine rn 1 rfl ?_
  refine ci hF rfl (fun c_7 hF => ?_) (fun c_7 hF => ?_)
  · refine rn 0 rfl ?_
    have h0 := hs
    refine dr0 ?_
    refine de rfl (lND (s := c34 p) rfl rfl rfl) ?_
    refine de rfl (e_faddrD rfl) ?_
    refine de rfl (l1D rfl rfl) ?_
    obtain ⟨v_8, g_9, hF⟩ := bind_some hF
    refine dn 1 rfl ?_
    refine de rfl (e_iaddrL (rd_V rfl) rfl g_9) ?_
    refine de rfl (lND (s := c52 v_8) rfl rfl rfl) ?_
    refine dn 1 rfl ?_
    refine de rfl (e_faddrD rfl) ?_
    refine de rfl (l1D rfl rfl) ?_
    refine de rfl (e_len (rd_V rfl)) ?_
    refine dn 2 rfl ?_
    refine dz ?_
    obtain ⟨r_10, g_11, hF⟩ := bind_some hF
    refine df (d34 p v_8 (i == (IntKind.wrap .i64 (((ls p.Code).length : Int) - 1))) _ g_11) rfl ?_
    refine rn 1 rfl ?_
    refine ci hF rfl (fun c_12 hF => ?_) (fun c_12 hF => ?_)
    · refine rn 1 rfl ?_
      cases hF
      exact rD (rlt rl0) rfl
    · refine rn 3 rfl ?_
      exact ih (.p1 p (IntKind.wrap .i64 (i + 1))) _ hF _ _ ⟨rfl, rfl, trivial⟩ hs
  · refine rn 1 rfl ?_
    cases hF
    exact rD (rlt rl0) rfl
noncomputable def F19 (p : T34) : Option Bool :=
 (if (decide (p.Groups < 0)) = true then
  (some false)
 else
  (if (decide (p.Groups > 99)) = true then
   (some false)
  else
   (if (decide (p.Slots < 0)) = true then
    (some false)
   else
    (if (decide (p.Slots > 16384)) = true then
     (some false)
    else
     (if (decide (((ls p.Code).length : Int) < 1)) = true then
      (some false)
     else
      (if (decide (((ls p.Code).length : Int) > 16384)) = true then
       (some false)
      else
       (G19 (.p1 p 0))))))))
theorem d19 (p : T34) (r : Bool) (hF : F19 p = some r) : DFun Try.prog noG 19 [v34 p] (AV.bool r) := by
 unfold F19 at hF
 refine bD k19 rfl ?_
 have hs : SH [] [] := SH.nil
 generalize ([] : Store) = st at hs ⊢
 refine rn 0 rfl ?_
 refine W.o (e_boxD (cs := c34 p) rfl rfl (c34_one _)) ?_
 refine rn 1 rfl ?_
 refine W.o (e_faddrD rfl) ?_
 refine W.o (l1D rfl rfl) ?_
 refine rn 2 rfl ?_
 refine bi hF (fun c_1 hF => ?_) (fun c_1 hF => ?_)
 · refine wfx 7 rfl c_1 ?_
   refine rn 26 rfl ?_
   refine ct rfl rfl ?_
   refine rn 1 rfl ?_
   cases hF
   exact rD (rlt rl0) rfl
 · refine wfx 7 rfl c_1 ?_
   refine W.on rfl rfl ?_
   refine W.o (e_faddrD rfl) ?_
   refine W.on rfl rfl ?_
   refine W.o (l1D rfl rfl) ?_
   refine rn 3 rfl ?_
   refine bi hF (fun c_2 hF => ?_) (fun c_2 hF => ?_)
   · refine wfx 12 rfl c_2 ?_
     refine rn 21 rfl ?_
     refine ct rfl rfl ?_
     refine rn 1 rfl ?_
     cases hF
     exact rD (rlt rl0) rfl
   · refine wfx 12 rfl c_2 ?_
     refine W.on rfl rfl ?_
     refine W.o (e_faddrD rfl) ?_
     refine W.on rfl rfl ?_
     refine W.o (l1D rfl rfl) ?_
     refine rn 3 rfl ?_
     refine bi hF (fun c_3 hF => ?_) (fun c_3 hF => ?_)
     · refine wfx 17 rfl c_3 ?_
       refine rn 16 rfl ?_
       refine ct rfl rfl ?_
       refine rn 1 rfl ?_
       cases hF
       exact rD (rlt rl0) rfl
     · refine wfx 17 rfl c_3 ?_
       refine W.on rfl rfl ?_
       refine W.o (e_faddrD rfl) ?_
       refine W.on rfl rfl ?_
       refine W.o (l1D rfl rfl) ?_
       refine rn 3 rfl ?_
       refine bi hF (fun c_4 hF => ?_) (fun c_4 hF => ?_)
       · refine wfx 22 rfl c_4 ?_
         refine rn 11 rfl ?_
         refine ct rfl rfl ?_
         refine rn 1 rfl ?_
         cases hF
         exact rD (rlt rl0) rfl
       · refine wfx 22 rfl c_4 ?_
         refine W.on rfl rfl ?_
         refine W.o (e_faddrD rfl) ?_
         refine W.on rfl rfl ?_
         refine W.o (l1D rfl rfl) ?_
         refine W.on rfl rfl ?_
         refine W.o (e_len (rd_V rfl)) ?_
         refine rn 3 rfl ?_
         refine bi hF (fun c_5 hF => ?_) (fun c_5 hF => ?_)
         · refine wfx 28 rfl c_5 ?_
           refine rn 5 rfl ?_
           refine ct rfl rfl ?_
           refine rn 1 rfl ?_
           cases hF
           exact rD (rlt rl0) rfl
         · refine wfx 28 rfl c_5 ?_
           refine W.on rfl rfl ?_
           refine W.o (e_faddrD rfl) ?_
           refine W.on rfl rfl ?_
           refine W.o (l1D rfl rfl) ?_
           refine W.on rfl rfl ?_
           refine W.o (e_len (rd_V rfl)) ?_
           refine rn 2 rfl ?_
           refine ci hF rfl (fun c_6 hF => ?_) (fun c_6 hF => ?_)
           · refine rn 1 rfl ?_
             cases hF
             exact rD (rlt rl0) rfl
           · refine rn 1 rfl ?_
             exact w19 (.p1 p 0) _ hF _ _ ⟨rfl, rfl, trivial⟩ hs
/-! ### 35: paddock/paddockref10.Error -/
def C35_28 : ACode := .cond 22 (.s (.ops [q 2 (.mv (ki 101))]) .ret) .skip
def C35_18 : ACode := .s (.s (.ops [q 9 (.mv 4), q 10 (.faddr 2 1), q 11 (.load1 10), q 12 (.len 11), q 13 (.binI .lss 9 12)]) (.cond 13 .skip (.exit 0))) (.s (.block 1 (.s (.ops [q 16 (.faddr 2 1), q 17 (.load1 16), q 18 (.mv 4), q 19 (.iaddrL 9 17 18), q 20 (.faddr 0 19), q 21 (.load1 20), q 22 (.binI .eql 21 (ku 9))]) C35_28)) (.ops [q 14 (.mv 4), q 15 (.binI .add 14 (ki 1)), q 4 (.mv 15)]))
def C35_34 : ACode := .s (.ops [q 2 (.mv (ki 0))]) .ret
def C35_1 : ACode := .s (.ops [q 1 (.boxD 3 0), q 2 (.mv (ki 0))]) (.s (.ops [q 5 (.loadN 3 1), qc 6 19 [5], q 3 (.mv 6)]) (.s (.s (.ops [q 7 (.mv 3), q 8 (.un .not 7)]) (.cond 8 (.s (.ops [q 2 (.mv (ki 100))]) .ret) .skip)) (.s (.s (.ops [q 4 (.mv (ki 0))]) (.block 0 (.loop C35_18))) C35_34)))
def R35 : List RA := [(.tmp 2)]
theorem k35 : compF Try.prog (muL [1]) 35 = some ⟨23, C35_1, R35⟩ := by kernel_rfl
noncomputable abbrev X35 (r : Int) : Cx := cD Try.prog noG 23 R35 (AV.int .i64 r) [1]
inductive St35 where
 | p1 (p : T34) (i : Int)
noncomputable def G35 : St35 → Option Int
 | .p1 p i =>
  (if (decide (i < ((ls p.Code).length : Int))) = true then
   (ix (ls p.Code) i >>= fun v_5 =>
    (if (v_5.Kind == 9) = true then
     (some 101)
    else
     (G35 (.p1 p (IntKind.wrap .i64 (i + 1))))))
  else
   (some 0))
 partial_fixpoint
def M35 (x : St35) (r : Int) : Prop := match x with
 | .p1 p i => ∀ (tm : Fr) (st : Store), Frm tm [(1, .dptr (c34 p)), (4, AV.int .i64 i)] → SH st [] → W (X35 r) [.lp C35_18, .blk 0, .code C35_34] tm st
theorem w35 : ∀ (x : St35) (r : Int), G35 x = some r → M35 x r := by
 refine G35.partial_correctness (M35) ?_
 intro g ih x r hF
 cases x with
 | p1 p i =>
  dsimp only at hF
  intro tm st hf hs
  refine en hf ?_
  refine lp ?_
  refine rn 1 rfl ?_
  refine W.o (e_faddrD rfl) ?_
  refine W.o (l1D rfl rfl) ?_
  refine W.o (e_len (rd_V rfl)) ?_
  refine rn 1 rfl ?_
  refine ci hF rfl (fun c_4 hF => ?_) (fun c_4 hF => ?_)
  · refine rn 0 rfl ?_
    refine W.o (e_faddrD rfl) ?_
    refine W.o (l1D rfl rfl) ?_
    obtain ⟨v_5, g_6, hF⟩ := bind_some hF
    refine rn 1 rfl ?_
    refine W.o (e_iaddrL (rd_V rfl) rfl g_6) ?_
    refine W.o (e_faddrD rfl) ?_
    refine W.o (l1D rfl rfl) ?_
    refine rn 1 rfl ?_
    refine ci hF rfl (fun c_7 hF => ?_) (fun c_7 hF => ?_)
    · refine rn 1 rfl ?_
      cases hF
      exact rD (rlt rl0) rfl
    · refine rn 3 rfl ?_
      exact ih (.p1 p (IntKind.wrap .i64 (i + 1))) _ hF _ _ ⟨rfl, rfl, trivial⟩ hs
  · refine rn 1 rfl ?_
    cases hF
    exact rD (rlt rl0) rfl
noncomputable def F35 (p : T34) : Option Int :=
 (F19 p >>= fun r_1 =>
  (if (!r_1) = true then
   (some 100)
  else
   (G35 (.p1 p 0))))
theorem d35 (p : T34) (r : Int) (hF : F35 p = some r) : DFun Try.prog noG 35 [v34 p] (AV.int .i64 r) := by
 unfold F35 at hF
 refine bD k35 rfl ?_
 have hs : SH [] [] := SH.nil
 generalize ([] : Store) = st at hs ⊢
 refine rn 0 rfl ?_
 refine W.o (e_boxD (cs := c34 p) rfl rfl (c34_one _)) ?_
 refine rn 1 rfl ?_
 refine W.o (lND (s := c34 p) rfl rfl rfl) ?_
 obtain ⟨r_1, g_2, hF⟩ := bind_some hF
 refine df (d19 p _ g_2) rfl ?_
 refine rn 3 rfl ?_
 refine ci hF rfl (fun c_3 hF => ?_) (fun c_3 hF => ?_)
 · refine rn 1 rfl ?_
   cases hF
   exact rD (rlt rl0) rfl
 · refine rn 1 rfl ?_
   exact w35 (.p1 p 0) _ hF _ _ ⟨rfl, rfl, trivial⟩ hs
end Go.Proofs.Ytjbafmnocopofaa
end
section
/-
  Functions of the program's as plain functions.
-/

set_option linter.unusedVariables false
set_option maxRecDepth 4000
set_option maxHeartbeats 4000000
namespace Go.Proofs.Ytjbafmnocopofaa
open Go AW
attribute [local irreducible] W WD SH XS XLoop DFun XCall XYield
/-! ### 45: paddock/paddockref10.into -/
def C45_58 : ACode := .s (.ops [q 78 (.mv 4), q 79 (.mv 3), q 80 (.lenS 79), q 81 (.binI .eql 78 80)]) (.cond 81 (.ops [q 82 (.mv 10), q 83 (.mv 11), q 84 (.binI .add 83 (ki 1)), q 85 (.bslice 1 1 false [(.int .i64 0)] [(0, (1, 84))] false), q 86 (.appR 1 8 82 85), q 10 (.mv 86)]) .skip)
def C45_28 : ACode := .s (.ops [q 41 (.faddr 0 12), q 42 (.load1 41)]) (.block 2 (.s (.s (.ops [q 49 (.binI .eql 42 (ku 1)), q 48 (.mv 49)]) (.cond 48 .skip (.ops [q 50 (.binI .eql 42 (ku 12)), q 48 (.mv 50)]))) (.cond 48 .skip (.s (.ops [q 52 (.binI .eql 42 (ku 2)), q 51 (.mv 52)]) (.cond 51 (.ops [q 53 (.mv 10), q 54 (.mv 11), q 55 (.binI .add 54 (ki 1)), q 56 (.faddr 5 12), q 57 (.load1 56), q 58 (.bslice 1 2 false [(.int .i64 0)] [(0, (1, 55)), (1, (1, 57))] false), q 59 (.appR 1 8 53 58), q 10 (.mv 59)]) (.s (.ops [q 61 (.binI .eql 42 (ku 3)), q 60 (.mv 61)]) (.cond 60 (.ops [q 62 (.mv 10), q 63 (.faddr 5 12), q 64 (.load1 63), q 65 (.bslice 1 1 false [(.int .i64 0)] [(0, (1, 64))] false), q 66 (.appR 1 8 62 65), q 10 (.mv 66)]) (.s (.ops [q 68 (.binI .eql 42 (ku 10)), q 67 (.mv 68)]) (.cond 67 (.s (.ops [q 69 (.mv 4), q 70 (.binI .eql 69 (ki 0))]) (.cond 70 (.ops [q 71 (.mv 10), q 72 (.mv 11), q 73 (.binI .add 72 (ki 1)), q 74 (.bslice 1 1 false [(.int .i64 0)] [(0, (1, 73))] false), q 75 (.appR 1 8 71 74), q 10 (.mv 75)]) .skip)) (.s (.ops [q 77 (.binI .eql 42 (ku 11)), q 76 (.mv 77)]) (.cond 76 C45_58 (.ops [q 43 (.mv 10), q 44 (.mv 11), q 45 (.binI .add 44 (ki 1)), q 46 (.bslice 1 1 false [(.int .i64 0)] [(0, (1, 45))] false), q 47 (.appR 1 8 43 46), q 10 (.mv 47)]))))))))))))
def C45_7 : ACode := .s (.s (.ops [q 15 (.mv 10), q 16 (.len 15), q 17 (.binI .gtr 16 (ki 0))]) (.cond 17 .skip (.exit 0))) (.block 1 (.s (.ops [q 18 (.mv 10), q 19 (.mv 10), q 20 (.len 19), q 21 (.binI .sub 20 (ki 1)), q 22 (.iaddrL 1 18 21), q 23 (.load1 22), q 11 (.mv 23)]) (.s (.ops [q 24 (.mv 10), q 25 (.mv 10), q 26 (.len 25), q 27 (.binI .sub 26 (ki 1)), q 28 (.slR 1 24 .none (.some 27)), q 10 (.mv 28)]) (.s (.s (.ops [q 29 (.mv 1), q 30 (.mv 11), q 31 (.iaddrL 1 29 30), q 32 (.load1 31)]) (.cond 32 (.exit 1) .skip)) (.s (.ops [q 33 (.mv 1), q 34 (.mv 11), q 35 (.iaddrL 1 33 34), q0 (.store 1 35 (.c (.bool true)))]) (.s (.ops [q 36 (.faddr 2 5), q 37 (.load1 36), q 38 (.mv 11), q 39 (.iaddrL 9 37 38), q 40 (.loadN 9 39), q 12 (.alloc [(.int .u8 0), (.int .u64 0), (.int .u64 0), (.int .u64 0), (.int .u64 0), (.int .i64 0), (.int .i64 0), (.int .i64 0), (.int .i64 0)]), q0 (.store 9 12 40)]) C45_28))))))
def C45_1 : ACode := .s (.ops [q 5 (.boxD 3 0)]) (.s (.ops [q 13 (.mv 2), q 14 (.bslice 1 1 false [(.int .i64 0)] [(0, (1, 13))] true), q 10 (.mv 14)]) (.block 0 (.loop C45_7)))
def R45 : List RA := []
theorem k45 : compF Try.prog (muL [5, 28, 47, 59, 66, 75, 86, 2000014]) 45 = some ⟨87, C45_1, R45⟩ := by kernel_rfl
noncomputable abbrev X45 (K : AV → Store → Prop) : Cx := cK Try.prog noG 87 R45 (isK K) [5, 28, 47, 59, 66, 75, 86, 2000014]
inductive St45 where
 | p1 (s : Str) (place : Int) (p : T34) (in_ : Sl Bool) (todo : Sl Int)
noncomputable def G45 : St45 → Option (Sl Bool)
 | .p1 s place p in_ todo =>
  (if (decide (((ls todo).length : Int) > 0)) = true then
   (ix (ls todo) (IntKind.wrap .i64 (((ls todo).length : Int) - 1)) >>= fun v_3 =>
    (scut todo 0 (IntKind.wrap .i64 (((ls todo).length : Int) - 1)) >>= fun w_5 =>
     (ix (ls in_) v_3 >>= fun v_7 =>
      (if v_7 = true then
       (G45 (.p1 s place p in_ w_5))
      else
       (ix (ls in_) v_3 >>= fun v_10 =>
        (ix (ls p.Code) v_3 >>= fun v_12 =>
         (if (v_12.Kind == 1) = true then
          (G45 (.p1 s place p (vset in_ v_3 true) w_5))
         else
          (if (v_12.Kind == 12) = true then
           (G45 (.p1 s place p (vset in_ v_3 true) w_5))
          else
           (if (v_12.Kind == 2) = true then
            (if ((ls w_5).length + (ls (some ([IntKind.wrap .i64 (v_3 + 1), v_12.To] : List Int))).length) * 8 ≤ 140737488355328 then
             (G45 (.p1 s place p (vset in_ v_3 true) (sapp w_5 (ls (some ([IntKind.wrap .i64 (v_3 + 1), v_12.To] : List Int))))))
            else none)
           else
            (if (v_12.Kind == 3) = true then
             (if ((ls w_5).length + (ls (some ([v_12.To] : List Int))).length) * 8 ≤ 140737488355328 then
              (G45 (.p1 s place p (vset in_ v_3 true) (sapp w_5 (ls (some ([v_12.To] : List Int))))))
             else none)
            else
             (if (v_12.Kind == 10) = true then
              (if (place == 0) = true then
               (if ((ls w_5).length + (ls (some ([IntKind.wrap .i64 (v_3 + 1)] : List Int))).length) * 8 ≤ 140737488355328 then
                (G45 (.p1 s place p (vset in_ v_3 true) (sapp w_5 (ls (some ([IntKind.wrap .i64 (v_3 + 1)] : List Int))))))
               else none)
              else
               (G45 (.p1 s place p (vset in_ v_3 true) w_5)))
             else
              (if (v_12.Kind == 11) = true then
               (if (place == ((s).length : Int)) = true then
                (if ((ls w_5).length + (ls (some ([IntKind.wrap .i64 (v_3 + 1)] : List Int))).length) * 8 ≤ 140737488355328 then
                 (G45 (.p1 s place p (vset in_ v_3 true) (sapp w_5 (ls (some ([IntKind.wrap .i64 (v_3 + 1)] : List Int))))))
                else none)
               else
                (G45 (.p1 s place p (vset in_ v_3 true) w_5)))
              else
               (if ((ls w_5).length + (ls (some ([IntKind.wrap .i64 (v_3 + 1)] : List Int))).length) * 8 ≤ 140737488355328 then
                (G45 (.p1 s place p (vset in_ v_3 true) (sapp w_5 (ls (some ([IntKind.wrap .i64 (v_3 + 1)] : List Int))))))
               else none)))))))))))))
  else
   (some in_))
 partial_fixpoint
def M45 (x : St45) (r : Sl Bool) : Prop := match x with
 | .p1 s place p in_ todo => ∀ (K : AV → Store → Prop) (Ls : List Asn) (iP0 : Nat), (∀ st, SH st (rvA cB iP0 r :: Ls) → K (AV.tup []) st) → ∀ (tm : Fr) (st : Store) (io1 : Nat), Frm tm [(1, rvV 1 in_ iP0), (3, AV.str s), (4, AV.int .i64 place), (5, .dptr (c34 p)), (10, rvV 1 todo io1)] → SH st (rvA cB iP0 in_ :: rvA (cI .i64) io1 todo :: Ls) → W (X45 K) [.lp C45_7, .blk 0] tm st
theorem w45 : ∀ (x : St45) (r : Sl Bool), G45 x = some r → M45 x r := by
 refine G45.partial_correctness (M45) ?_
 intro g ih x r hF
 cases x with
 | p1 s place p in_ todo =>
  dsimp only at hF
  intro K Ls iP0 hK tm st io1 hf hs
  refine en hf ?_
  refine lp ?_
  refine rn 1 rfl ?_
  refine W.o (e_lenV hs 1 rfl rfl) ?_
  refine rn 1 rfl ?_
  refine ci hF rfl (fun c_2 hF => ?_) (fun c_2 hF => ?_)
  · refine rn 2 rfl ?_
    refine W.o (e_lenV hs 1 rfl rfl) ?_
    obtain ⟨v_3, g_4, hF⟩ := bind_some hF
    refine rn 1 rfl ?_
    refine W.o (e_iaddrV hs 1 rfl rfl rfl g_4) ?_
    refine W.o (e_load1 rfl (SH.gv hs 1 rfl g_4) (LR.cast (LR.comp (LR.whole _ _) (lrV_get (cI_len .i64) g_4)) (by omega))) ?_
    refine rn 3 rfl ?_
    refine W.o (e_lenV hs 1 rfl rfl) ?_
    obtain ⟨w_5, g_6, hF⟩ := bind_some hF
    refine rn 1 rfl ?_
    refine cutV (c := cI .i64) (o := todo) hs 1 rfl rfl rfl g_6 (cI_len .i64) rfl fun st hs => ?_
    obtain ⟨v_7, g_8, hF⟩ := bind_some hF
    refine rn 3 rfl ?_
    refine W.o (e_iaddrV hs 0 rfl rfl rfl g_8) ?_
    refine W.o (e_load1 rfl (SH.gv hs 0 rfl g_8) (LR.cast (LR.comp (LR.whole _ _) (lrV_get cB_len g_8)) (by omega))) ?_
    refine rn 0 rfl ?_
    refine ci hF rfl (fun c_9 hF => ?_) (fun c_9 hF => ?_)
    · refine rn 0 rfl ?_
      exact ih (.p1 s place p in_ w_5) _ hF K Ls iP0 hK _ _ io1 ⟨rfl, rfl, rfl, rfl, rfl, trivial⟩ hs
    · obtain ⟨v_10, g_11, hF⟩ := bind_some hF
      refine rn 2 rfl ?_
      refine W.o (e_iaddrV hs 0 rfl rfl rfl g_11) ?_
      refine slv hs 0 rfl rfl g_11 rfl (LR.cast (LR.comp (LR.whole _ _) (lrV_set cB_len g_11 true)) (by omega)) (cB_len _) rfl (cB_len _) (cB_one _) rfl fun st hs => ?_
      refine rn 0 rfl ?_
      refine W.o (e_faddrD rfl) ?_
      refine W.o (l1D rfl rfl) ?_
      obtain ⟨v_12, g_13, hF⟩ := bind_some hF
      refine rn 1 rfl ?_
      refine W.o (e_iaddrL (rd_V rfl) rfl g_13) ?_
      refine W.o (lND (s := c52 v_12) rfl rfl rfl) ?_
      refine al hs (cs := c52 ({ Kind := 0, Set := (Arr.rep 4 0), To := 0, Group := 0, Last := 0, Slot := 0 } : T52)) rfl fun st b_14 hs => ?_
      refine sr hs 0 rfl rfl rfl (cs' := c52 v_12) rfl rfl fun st hs => ?_
      refine rn 0 rfl ?_
      refine W.o (e_faddr rfl (hs.g 0 rfl)) ?_
      refine W.o (l1 rfl (hs.g 0 rfl) rfl) ?_
      refine rn 2 rfl ?_
      refine ci hF rfl (fun c_15 hF => ?_) (fun c_15 hF => ?_)
      · refine rn 0 rfl ?_
        refine ct rfl c_15 ?_
        refine rn 0 rfl ?_
        exact ih (.p1 s place p (vset in_ v_3 true) w_5) _ hF K Ls iP0 hK _ _ io1 ⟨(show rvV 1 in_ iP0 = rvV 1 (vset in_ v_3 true) iP0 by simp only [rvV_vset]), rfl, rfl, rfl, rfl, trivial⟩ (hs.p 3 [1, 1] rfl)
      · refine rn 2 rfl ?_
        refine ci hF rfl (fun c_16 hF => ?_) (fun c_16 hF => ?_)
        · refine rn 0 rfl ?_
          exact ih (.p1 s place p (vset in_ v_3 true) w_5) _ hF K Ls iP0 hK _ _ io1 ⟨(show rvV 1 in_ iP0 = rvV 1 (vset in_ v_3 true) iP0 by simp only [rvV_vset]), rfl, rfl, rfl, rfl, trivial⟩ (hs.p 3 [1, 1] rfl)
        · refine rn 2 rfl ?_
          refine ci hF rfl (fun c_17 hF => ?_) (fun c_17 hF => ?_)
          · refine rn 3 rfl ?_
            refine W.o (e_faddr rfl (hs.g 0 rfl)) ?_
            refine W.o (l1 rfl (hs.g 0 rfl) rfl) ?_
            refine bs (f := AV.int .i64) ([IntKind.wrap .i64 (v_3 + 1), v_12.To] : List Int) hs rfl rfl rfl rfl fun st b_18 hs => ?_
            obtain ⟨g_19, hF⟩ := grd_some hF
            refine apV (f := AV.int .i64) (c := cI .i64) (ys := ls (some ([IntKind.wrap .i64 (v_3 + 1), v_12.To] : List Int))) hs 3 rfl rfl (ae_rd (rd_W (o := (some ([IntKind.wrap .i64 (v_3 + 1), v_12.To] : List Int))) (id := b_18) rfl)) g_19 (cI_len .i64) (fun _ => rfl) (fun _ => rfl) fun st b_20 hs => ?_
            refine rn 1 rfl ?_
            exact ih (.p1 s place p (vset in_ v_3 true) (sapp w_5 (ls (some ([IntKind.wrap .i64 (v_3 + 1), v_12.To] : List Int))))) _ hF K Ls iP0 hK _ _ b_20 ⟨(show rvV 1 in_ iP0 = rvV 1 (vset in_ v_3 true) iP0 by simp only [rvV_vset]), rfl, rfl, rfl, rfl, trivial⟩ (hs.p 4 [2, 2] rfl)
          · refine rn 2 rfl ?_
            refine ci hF rfl (fun c_21 hF => ?_) (fun c_21 hF => ?_)
            · refine rn 1 rfl ?_
              refine W.o (e_faddr rfl (hs.g 0 rfl)) ?_
              refine W.o (l1 rfl (hs.g 0 rfl) rfl) ?_
              refine bs (f := AV.int .i64) ([v_12.To] : List Int) hs rfl rfl rfl rfl fun st b_22 hs => ?_
              obtain ⟨g_23, hF⟩ := grd_some hF
              refine apV (f := AV.int .i64) (c := cI .i64) (ys := ls (some ([v_12.To] : List Int))) hs 3 rfl rfl (ae_rd (rd_W (o := (some ([v_12.To] : List Int))) (id := b_22) rfl)) g_23 (cI_len .i64) (fun _ => rfl) (fun _ => rfl) fun st b_24 hs => ?_
              refine rn 1 rfl ?_
              exact ih (.p1 s place p (vset in_ v_3 true) (sapp w_5 (ls (some ([v_12.To] : List Int))))) _ hF K Ls iP0 hK _ _ b_24 ⟨(show rvV 1 in_ iP0 = rvV 1 (vset in_ v_3 true) iP0 by simp only [rvV_vset]), rfl, rfl, rfl, rfl, trivial⟩ (hs.p 4 [2, 2] rfl)
            · refine rn 2 rfl ?_
              refine ci hF rfl (fun c_25 hF => ?_) (fun c_25 hF => ?_)
              · refine rn 2 rfl ?_
                refine ci hF rfl (fun c_26 hF => ?_) (fun c_26 hF => ?_)
                · refine rn 3 rfl ?_
                  refine bs (f := AV.int .i64) ([IntKind.wrap .i64 (v_3 + 1)] : List Int) hs rfl rfl rfl rfl fun st b_27 hs => ?_
                  obtain ⟨g_28, hF⟩ := grd_some hF
                  refine apV (f := AV.int .i64) (c := cI .i64) (ys := ls (some ([IntKind.wrap .i64 (v_3 + 1)] : List Int))) hs 3 rfl rfl (ae_rd (rd_W (o := (some ([IntKind.wrap .i64 (v_3 + 1)] : List Int))) (id := b_27) rfl)) g_28 (cI_len .i64) (fun _ => rfl) (fun _ => rfl) fun st b_29 hs => ?_
                  refine rn 1 rfl ?_
                  exact ih (.p1 s place p (vset in_ v_3 true) (sapp w_5 (ls (some ([IntKind.wrap .i64 (v_3 + 1)] : List Int))))) _ hF K Ls iP0 hK _ _ b_29 ⟨(show rvV 1 in_ iP0 = rvV 1 (vset in_ v_3 true) iP0 by simp only [rvV_vset]), rfl, rfl, rfl, rfl, trivial⟩ (hs.p 4 [2, 2] rfl)
                · refine rn 0 rfl ?_
                  exact ih (.p1 s place p (vset in_ v_3 true) w_5) _ hF K Ls iP0 hK _ _ io1 ⟨(show rvV 1 in_ iP0 = rvV 1 (vset in_ v_3 true) iP0 by simp only [rvV_vset]), rfl, rfl, rfl, rfl, trivial⟩ (hs.p 3 [1, 1] rfl)
              · refine rn 2 rfl ?_
                refine ci hF rfl (fun c_30 hF => ?_) (fun c_30 hF => ?_)
                · refine rn 4 rfl ?_
                  refine ci hF rfl (fun c_31 hF => ?_) (fun c_31 hF => ?_)
                  · refine rn 3 rfl ?_
                    refine bs (f := AV.int .i64) ([IntKind.wrap .i64 (v_3 + 1)] : List Int) hs rfl rfl rfl rfl fun st b_32 hs => ?_
                    obtain ⟨g_33, hF⟩ := grd_some hF
                    refine apV (f := AV.int .i64) (c := cI .i64) (ys := ls (some ([IntKind.wrap .i64 (v_3 + 1)] : List Int))) hs 3 rfl rfl (ae_rd (rd_W (o := (some ([IntKind.wrap .i64 (v_3 + 1)] : List Int))) (id := b_32) rfl)) g_33 (cI_len .i64) (fun _ => rfl) (fun _ => rfl) fun st b_34 hs => ?_
                    refine rn 1 rfl ?_
                    exact ih (.p1 s place p (vset in_ v_3 true) (sapp w_5 (ls (some ([IntKind.wrap .i64 (v_3 + 1)] : List Int))))) _ hF K Ls iP0 hK _ _ b_34 ⟨(show rvV 1 in_ iP0 = rvV 1 (vset in_ v_3 true) iP0 by simp only [rvV_vset]), rfl, rfl, rfl, rfl, trivial⟩ (hs.p 4 [2, 2] rfl)
                  · refine rn 0 rfl ?_
                    exact ih (.p1 s place p (vset in_ v_3 true) w_5) _ hF K Ls iP0 hK _ _ io1 ⟨(show rvV 1 in_ iP0 = rvV 1 (vset in_ v_3 true) iP0 by simp only [rvV_vset]), rfl, rfl, rfl, rfl, trivial⟩ (hs.p 3 [1, 1] rfl)
                · refine rn 3 rfl ?_
                  refine bs (f := AV.int .i64) ([IntKind.wrap .i64 (v_3 + 1)] : List Int) hs rfl rfl rfl rfl fun st b_35 hs => ?_
                  obtain ⟨g_36, hF⟩ := grd_some hF
                  refine apV (f := AV.int .i64) (c := cI .i64) (ys := ls (some ([IntKind.wrap .i64 (v_3 + 1)] : List Int))) hs 3 rfl rfl (ae_rd (rd_W (o := (some ([IntKind.wrap .i64 (v_3 + 1)] : List Int))) (id := b_35) rfl)) g_36 (cI_len .i64) (fun _ => rfl) (fun _ => rfl) fun st b_37 hs => ?_
                  refine rn 1 rfl ?_
                  exact ih (.p1 s place p (vset in_ v_3 true) (sapp w_5 (ls (some ([IntKind.wrap .i64 (v_3 + 1)] : List Int))))) _ hF K Ls iP0 hK _ _ b_37 ⟨(show rvV 1 in_ iP0 = rvV 1 (vset in_ v_3 true) iP0 by simp only [rvV_vset]), rfl, rfl, rfl, rfl, trivial⟩ (hs.p 4 [2, 2] rfl)
  · refine rn 0 rfl ?_
    cases hF
    exact eS rl0 (hK _ (hs.p 2 [0] rfl)) rfl
noncomputable def F45 (p : T34) (in_ : Sl Bool) (at_ : Int) (s : Str) (place : Int) : Option (Sl Bool) :=
 (G45 (.p1 s place p in_ (some ([at_] : List Int))))
theorem d45 (p : T34) (in_ : Sl Bool) (at_ : Int) (s : Str) (place : Int) (r : Sl Bool) (hF : F45 p in_ at_ s place = some r) : ∀ (K : AV → Store → Prop) (Ls : List Asn) (iP0 : Nat), (∀ st, SH st (rvA cB iP0 r :: Ls) → K (AV.tup []) st) → ∀ (st : Store), SH st (rvA cB iP0 in_ :: Ls) → XCall Try.prog noG 45 [v34 p, rvV 1 in_ iP0, AV.int .i64 at_, AV.str s, AV.int .i64 place] st K := by
 unfold F45 at hF
 intro K Ls iP0 hK  st hs
 refine bS k45 rfl ?_
 refine rn 0 rfl ?_
 refine W.o (e_boxD (cs := c34 p) rfl rfl (c34_one _)) ?_
 refine rn 1 rfl ?_
 refine litV (c := cI .i64) ([at_] : List Int) hs rfl rfl rfl fun st b_1 hs => ?_
 refine rn 1 rfl ?_
 exact w45 (.p1 s place p in_ (some ([at_] : List Int))) _ hF K Ls iP0 hK _ _ b_1 ⟨rfl, rfl, rfl, rfl, rfl, trivial⟩ (hs.p 2 [1, 0] rfl)
/-! ### 36: paddock/paddockref10.ends -/
def C36_18 : ACode := .cond 30 (.ops [q 31 (.mv 7), q 32 (.mv 9), q 33 (.bslice 1 1 false [(.int .i64 0)] [(0, (1, 32))] false), q 34 (.app 1 8 31 33), q 7 (.mv 34)]) .skip
def C36_22 : ACode := .s (.ops [q 35 (.mv 9), q 36 (.mv 1), q 37 (.lenS 36), q 38 (.binI .eql 35 37)]) (.cond 38 (.s (.ops [q 39 (.mv 7), q 6 (.mv 39)]) .ret) .skip)
def O36_47q1 : List AOp := (q 74 (.load1 73)).y 63 :: (q 75 (.mv 1)).y 63 :: (q 76 (.mv 9)).y 63 :: (q 77 (.ixS 75 76)).y 63 :: (q 78 (.binI .rem 77 (ku 64))).y 63 :: (q 79 (.binI .shr 74 78)).y 63 :: (q 80 (.binI .and 79 (.c (.int .u64 1)))).y 63 :: (q 81 (.binI .eql 80 (.c (.int .u64 1)))).y 63 :: q 82 (.pick 63 81 (.c (.bool false))) :: []
def O36_47q0 : List AOp := q 50 (.mv 8) :: q 51 (.mv 12) :: q 52 (.iaddrL 1 50 51) :: q 53 (.load1 52) :: q 54 (.mv 53) :: (q 55 (.faddr 2 3)).y 54 :: (q 56 (.load1 55)).y 54 :: (q 57 (.mv 12)).y 54 :: (q 58 (.iaddrL 9 56 57)).y 54 :: (q 59 (.faddr 0 58)).y 54 :: (q 60 (.load1 59)).y 54 :: (q 61 (.binI .eql 60 (ku 1))).y 54 :: q 62 (.pick 54 61 (.c (.bool false))) :: q 63 (.mv 62) :: (q 64 (.faddr 2 3)).y 63 :: (q 65 (.load1 64)).y 63 :: (q 66 (.mv 12)).y 63 :: (q 67 (.mv 1)).y 63 :: (q 68 (.mv 9)).y 63 :: (q 69 (.ixS 67 68)).y 63 :: (q 70 (.binI .quo 69 (ku 64))).y 63 :: (q 71 (.iaddrL 9 65 66)).y 63 :: (q 72 (.faddr 1 71)).y 63 :: (q 73 (.iaddrA 4 1 72 70)).y 63 :: O36_47q1
def C36_38 : ACode := .s (.s (.ops [q 44 (.mv 12), q 45 (.mv 8), q 46 (.len 45), q 47 (.binI .lss 44 46)]) (.cond 47 .skip (.exit 2))) (.s (.block 3 (.s (.draw [] 0 0 O36_47q0 []) (.cond 82 (.s (.ops [q 11 (.mv (.c (.bool true)))]) (.ops [q 83 (.loadN 3 3), q 84 (.mv 10), q 85 (.mv 12), q 86 (.binI .add 85 (ki 1)), q 87 (.mv 1), q 88 (.mv 9), q 89 (.binI .add 88 (ki 1)), qc 90 45 [83, 84, 86, 87, 89]])) .skip))) (.ops [q 48 (.mv 12), q 49 (.binI .add 48 (ki 1)), q 12 (.mv 49)]))
def C36_54 : ACode := .s (.s (.ops [q 91 (.mv 11), q 92 (.un .not 91)]) (.cond 92 (.s (.ops [q 93 (.mv 7), q 6 (.mv 93)]) .ret) .skip)) (.ops [q 94 (.mv 10), q 8 (.mv 94)])
def C36_29 : ACode := .s (.ops [q 40 (.faddr 2 3), q 41 (.load1 40), q 42 (.len 41), q 43 (.mkslice 1 1 [(.bool false)] 42 42 true), q 10 (.mv 43)]) (.s (.ops [q 11 (.mv (.c (.bool false)))]) (.s (.s (.ops [q 12 (.mv (ki 0))]) (.block 2 (.loop C36_38))) C36_54))
def C36_21 : ACode := .s C36_22 C36_29
def C36_63 : ACode := .ops [q 23 (.mv 9), q 24 (.binI .add 23 (ki 1)), q 9 (.mv 24)]
def C36_13 : ACode := .s (.block 1 (.s (.s (.ops [q 25 (.mv 8), q 26 (.mv 8), q 27 (.len 26), q 28 (.binI .sub 27 (ki 1)), q 29 (.iaddrL 1 25 28), q 30 (.load1 29)]) C36_18) C36_21)) C36_63
def C36_1 : ACode := .s (.ops [q 3 (.boxD 3 0), q 6 (.mv (.c .nils))]) (.s (.ops [q 7 (.mv (.c .nils))]) (.s (.ops [q 13 (.faddr 2 3), q 14 (.load1 13), q 15 (.len 14), q 16 (.mkslice 1 1 [(.bool false)] 15 15 true), q 8 (.mv 16)]) (.s (.ops [q 17 (.loadN 3 3), q 18 (.mv 8), q 19 (.mv 1), q 20 (.mv 2), qc 21 45 [17, 18, (ki 0), 19, 20]]) (.s (.ops [q 22 (.mv 2), q 9 (.mv 22)]) (.block 0 (.loop C36_13))))))
def R36 : List RA := [(.tmp 6)]
theorem k36 : compF Try.prog (muL [3, 16, 43]) 36 = some ⟨95, C36_1, R36⟩ := by kernel_rfl
noncomputable abbrev X36 (r : Sl Int) : Cx := cD Try.prog noG 95 R36 (slV 1 (AV.int .i64) r) [3, 16, 43]
inductive St36 where
 | p1 (s : Str) (p : T34) (i : Int) (out : Sl Int) (in_ : Sl Bool)
 | p2 (s : Str) (p : T34) (i : Int) (out : Sl Int) (in_ : Sl Bool)
 | p3 (s : Str) (p : T34) (i : Int) (any : Bool) (k : Int) (out : Sl Int) (in_ : Sl Bool) (next : Sl Bool)
noncomputable def G36 : St36 → Option (Sl Int)
 | .p1 s p i out in_ =>
  (ix (ls in_) (IntKind.wrap .i64 (((ls in_).length : Int) - 1)) >>= fun v_7 =>
   (if v_7 = true then
    (if ((ls out).length + (ls (some ([i] : List Int))).length) * 8 ≤ 140737488355328 then
     (G36 (.p2 s p i (sapp out (ls (some ([i] : List Int)))) in_))
    else none)
   else
    (G36 (.p2 s p i out in_))))
 | .p2 s p i out in_ =>
  (if (i == ((s).length : Int)) = true then
   (some out)
  else
   (if 0 ≤ ((ls p.Code).length : Int) ∧ ((ls p.Code).length : Int) = ((ls p.Code).length : Int) ∧ (1 : Int) * ((ls p.Code).length : Int) ≤ 281474976710656 then
    (G36 (.p3 s p i false 0 out in_ (some (List.replicate (Int.toNat ((ls p.Code).length : Int)) (false : Bool)))))
   else none))
 | .p3 s p i any k out in_ next =>
  (if (decide (k < ((ls in_).length : Int))) = true then
   (ix (ls in_) k >>= fun v_17 =>
    (if v_17 = true then
     (ix (ls p.Code) k >>= fun v_20 =>
      (if (v_20.Kind == 1) = true then
       (ix s i >>= fun b_23 =>
        (ix (ls p.Code) k >>= fun v_25 =>
         (if (0 : Int) ≤ (IntKind.wrap .u8 (Int.tdiv (b_23.toNat : Int) 64)) ∧ (IntKind.wrap .u8 (Int.tdiv (b_23.toNat : Int) 64)) < (4 : Int) then
          (ix v_25.Set.l (IntKind.wrap .u8 (Int.tdiv (b_23.toNat : Int) 64)) >>= fun v_28 =>
           (ix s i >>= fun b_30 =>
            (if 0 ≤ (Int.tmod (b_30.toNat : Int) 64) then
             (if ((andI .u64 (shrI .u64 v_28 (Int.tmod (b_30.toNat : Int) 64)) 1) == 1) = true then
              (F45 p next (IntKind.wrap .i64 (k + 1)) s (IntKind.wrap .i64 (i + 1)) >>= fun r_34 =>
               (if Option.map List.length r_34 = Option.map List.length next then
                (G36 (.p3 s p i true (IntKind.wrap .i64 (k + 1)) out in_ r_34))
               else none))
             else
              (G36 (.p3 s p i any (IntKind.wrap .i64 (k + 1)) out in_ next)))
            else none)))
         else none)))
      else
       (G36 (.p3 s p i any (IntKind.wrap .i64 (k + 1)) out in_ next))))
    else
     (G36 (.p3 s p i any (IntKind.wrap .i64 (k + 1)) out in_ next))))
  else
   (if (!any) = true then
    (some out)
   else
    (G36 (.p1 s p (IntKind.wrap .i64 (i + 1)) out next))))
 partial_fixpoint
def M36 (x : St36) (r : Sl Int) : Prop := match x with
 | .p1 s p i out in_ => ∀ (tm : Fr) (st : Store) (io0 : Nat) (io1 : Nat), Frm tm [(1, AV.str s), (3, .dptr (c34 p)), (7, ownV 1 (AV.int .i64) out io0), (8, rvV 1 in_ io1), (9, AV.int .i64 i)] → SH st [ownA io0 out, rvA cB io1 in_] → W (X36 r) [.lp C36_13, .blk 0] tm st
 | .p2 s p i out in_ => ∀ (tm : Fr) (st : Store) (io0 : Nat) (io1 : Nat), Frm tm [(1, AV.str s), (3, .dptr (c34 p)), (7, ownV 1 (AV.int .i64) out io0), (8, rvV 1 in_ io1), (9, AV.int .i64 i)] → SH st [ownA io0 out, rvA cB io1 in_] → W (X36 r) [.code C36_21, .blk 1, .code C36_63, .lp C36_13, .blk 0] tm st
 | .p3 s p i any k out in_ next => ∀ (tm : Fr) (st : Store) (io0 : Nat) (io1 : Nat) (io2 : Nat), Frm tm [(1, AV.str s), (3, .dptr (c34 p)), (7, ownV 1 (AV.int .i64) out io0), (8, rvV 1 in_ io1), (9, AV.int .i64 i), (10, rvV 1 next io2), (11, AV.bool any), (12, AV.int .i64 k)] → SH st [ownA io0 out, rvA cB io1 in_, rvA cB io2 next] → W (X36 r) [.lp C36_38, .blk 2, .code C36_54, .blk 1, .code C36_63, .lp C36_13, .blk 0] tm st
theorem w36 : ∀ (x : St36) (r : Sl Int), G36 x = some r → M36 x r := by
 refine G36.partial_correctness (M36) ?_
 intro g ih x r hF
 cases x with
 | p1 s p i out in_ =>
  dsimp only at hF
  intro tm st io0 io1 hf hs
  refine en hf ?_
  refine lp ?_
  refine rn 2 rfl ?_
  refine W.o (e_lenV hs 1 rfl rfl) ?_
  obtain ⟨v_7, g_8, hF⟩ := bind_some hF
  refine rn 1 rfl ?_
  refine W.o (e_iaddrV hs 1 rfl rfl rfl g_8) ?_
  refine W.o (e_load1 rfl (SH.gv hs 1 rfl g_8) (LR.cast (LR.comp (LR.whole _ _) (lrV_get cB_len g_8)) (by omega))) ?_
  refine rn 0 rfl ?_
  refine ci hF rfl (fun c_9 hF => ?_) (fun c_9 hF => ?_)
  · refine rn 2 rfl ?_
    refine bs (f := AV.int .i64) ([i] : List Int) hs rfl rfl rfl rfl fun st b_10 hs => ?_
    obtain ⟨g_11, hF⟩ := grd_some hF
    refine ap (ys := ls (some ([i] : List Int))) hs 1 rfl rfl (ae_rd (rd_W (o := (some ([i] : List Int))) (id := b_10) rfl)) g_11 (fun _ => rfl) fun st b_12 hs => ?_
    refine rj 1 1 rfl ?_
    exact ih (.p2 s p i (sapp out (ls (some ([i] : List Int)))) in_) _ hF _ _ b_12 io1 ⟨rfl, rfl, rfl, rfl, rfl, trivial⟩ (hs.p 3 [1, 1] rfl)
  · refine rj 0 1 rfl ?_
    exact ih (.p2 s p i out in_) _ hF _ _ io0 io1 ⟨rfl, rfl, rfl, rfl, rfl, trivial⟩ hs
 | p2 s p i out in_ =>
  dsimp only at hF
  intro tm st io0 io1 hf hs
  refine en hf ?_
  refine rn 4 rfl ?_
  refine ci hF rfl (fun c_13 hF => ?_) (fun c_13 hF => ?_)
  · refine rn 2 rfl ?_
    cases hF
    exact rD' (rlt rl0) dsw
  · refine rn 0 rfl ?_
    refine W.o (e_faddrD rfl) ?_
    refine W.o (l1D rfl rfl) ?_
    refine W.o (e_len (rd_V rfl)) ?_
    obtain ⟨g_15, hF⟩ := grd_some hF
    refine mkV (c := cB) (false : Bool) hs rfl rfl rfl g_15 fun st b_14 hs => ?_
    refine rn 3 rfl ?_
    exact ih (.p3 s p i false 0 out in_ (some (List.replicate (Int.toNat ((ls p.Code).length : Int)) (false : Bool)))) _ hF _ _ io0 io1 b_14 ⟨rfl, rfl, rfl, rfl, rfl, rfl, rfl, rfl, trivial⟩ (hs.p 3 [1, 1, 0] rfl)
 | p3 s p i any k out in_ next =>
  dsimp only at hF
  intro tm st io0 io1 io2 hf hs
  refine en hf ?_
  refine lp ?_
  refine rn 2 rfl ?_
  refine W.o (e_lenV hs 1 rfl rfl) ?_
  refine rn 1 rfl ?_
  refine ci hF rfl (fun c_16 hF => ?_) (fun c_16 hF => ?_)
  · refine rn 0 rfl ?_
    have h0 := hs
    refine dr0 ?_
    obtain ⟨v_17, g_18, hF⟩ := bind_some hF
    refine dn 2 rfl ?_
    refine de rfl (e_iaddrV h0 1 rfl rfl rfl g_18) ?_
    refine de rfl (e_load1 rfl (SH.gv h0 1 rfl g_18) (LR.cast (LR.comp (LR.whole _ _) (lrV_get cB_len g_18)) (by omega))) ?_
    refine dn 1 rfl ?_
    refine bi hF (fun c_19 hF => ?_) (fun c_19 hF => ?_)
    · refine dfx 54 rfl c_19 ?_
      refine don rfl rfl ?_
      refine de rfl (e_faddrD rfl) ?_
      refine don rfl rfl ?_
      refine de rfl (l1D rfl rfl) ?_
      obtain ⟨v_20, g_21, hF⟩ := bind_some hF
      refine dn 1 rfl ?_
      refine don rfl rfl ?_
      refine de rfl (e_iaddrL (rd_V rfl) rfl g_21) ?_
      refine don rfl rfl ?_
      refine de rfl (e_faddrD rfl) ?_
      refine don rfl rfl ?_
      refine de rfl (l1D rfl rfl) ?_
      refine dn 3 rfl ?_
      refine bi hF (fun c_22 hF => ?_) (fun c_22 hF => ?_)
      · refine dfx 63 rfl c_22 ?_
        refine don rfl rfl ?_
        refine de rfl (e_faddrD rfl) ?_
        refine don rfl rfl ?_
        refine de rfl (l1D rfl rfl) ?_
        obtain ⟨b_23, g_24, hF⟩ := bind_some hF
        refine dn 3 rfl ?_
        refine don rfl rfl ?_
        refine de rfl (e_ixS rfl rfl g_24) ?_
        refine don rfl rfl ?_
        refine de rfl (e_bin rfl rfl (op_quo _ _ _ (by decide))) ?_
        obtain ⟨v_25, g_26, hF⟩ := bind_some hF
        refine don rfl rfl ?_
        refine de rfl (e_iaddrL (rd_V rfl) rfl g_26) ?_
        refine don rfl rfl ?_
        refine de rfl (e_faddrD rfl) ?_
        obtain ⟨g_27, hF⟩ := grd_some hF
        obtain ⟨v_28, g_29, hF⟩ := bind_some hF
        refine don rfl rfl ?_
        refine de rfl (e_iaddrAD rfl rfl g_27) ?_
        refine don rfl rfl ?_
        refine de rfl (e_load1D rfl (DP.fld (show DP _ (c24 v_25.Set) from ⟨_, rfl⟩) (lrF_get (cI_len .u64) g_29))) ?_
        obtain ⟨b_30, g_31, hF⟩ := bind_some hF
        refine dn 2 rfl ?_
        refine don rfl rfl ?_
        refine de rfl (e_ixS rfl rfl g_31) ?_
        refine don rfl rfl ?_
        refine de rfl (e_bin rfl rfl (op_rem _ _ _ (by decide))) ?_
        obtain ⟨g_32, hF⟩ := grd_some hF
        refine don rfl rfl ?_
        refine de rfl (e_bin rfl rfl (op_shr _ _ _ _ g_32)) ?_
        refine dn 3 rfl ?_
        refine dz ?_
        refine rn 0 rfl ?_
        refine ci hF rfl (fun c_33 hF => ?_) (fun c_33 hF => ?_)
        · refine rn 1 rfl ?_
          refine W.o (lND (s := c34 p) rfl rfl rfl) ?_
          obtain ⟨r_34, g_35, hF⟩ := bind_some hF
          obtain ⟨g_36, hF⟩ := grd_some hF
          refine rn 6 rfl ?_
          refine cl (ale rfl) (d45 p next (IntKind.wrap .i64 (k + 1)) s (IntKind.wrap .i64 (i + 1)) _ g_35 _ _ io2 (fun st hs => ?_) _ (hs.p 3 [2, 0, 0] rfl))
          refine rn 3 rfl ?_
          exact ih (.p3 s p i true (IntKind.wrap .i64 (k + 1)) out in_ r_34) _ hF _ _ io0 io1 io2 ⟨rfl, rfl, rfl, rfl, rfl, (show rvV 1 next io2 = rvV 1 r_34 io2 by simp only [rvV_vset, rvV_len g_36]), rfl, rfl, trivial⟩ (hs.p 3 [1, 1, 0] rfl)
        · refine rn 3 rfl ?_
          exact ih (.p3 s p i any (IntKind.wrap .i64 (k + 1)) out in_ next) _ hF _ _ io0 io1 io2 ⟨rfl, rfl, rfl, rfl, rfl, rfl, rfl, rfl, trivial⟩ hs
      · refine dfx 63 rfl c_22 ?_
        refine dn 19 rfl ?_
        refine dz ?_
        refine rn 0 rfl ?_
        refine cf rfl rfl ?_
        refine rn 3 rfl ?_
        exact ih (.p3 s p i any (IntKind.wrap .i64 (k + 1)) out in_ next) _ hF _ _ io0 io1 io2 ⟨rfl, rfl, rfl, rfl, rfl, rfl, rfl, rfl, trivial⟩ hs
    · refine dfx 54 rfl c_19 ?_
      refine dn 28 rfl ?_
      refine dz ?_
      refine rn 0 rfl ?_
      refine cf rfl rfl ?_
      refine rn 3 rfl ?_
      exact ih (.p3 s p i any (IntKind.wrap .i64 (k + 1)) out in_ next) _ hF _ _ io0 io1 io2 ⟨rfl, rfl, rfl, rfl, rfl, rfl, rfl, rfl, trivial⟩ hs
  · refine rn 2 rfl ?_
    refine ci hF rfl (fun c_37 hF => ?_) (fun c_37 hF => ?_)
    · refine rn 2 rfl ?_
      cases hF
      exact rD' (rlt rl0) dsw
    · refine rn 5 rfl ?_
      exact ih (.p1 s p (IntKind.wrap .i64 (i + 1)) out next) _ hF _ _ io0 io2 ⟨rfl, rfl, rfl, rfl, rfl, trivial⟩ (hs.p 3 [0, 1] rfl)
noncomputable def F36 (p : T34) (s : Str) (from_ : Int) : Option (Sl Int) :=
 (if 0 ≤ ((ls p.Code).length : Int) ∧ ((ls p.Code).length : Int) = ((ls p.Code).length : Int) ∧ (1 : Int) * ((ls p.Code).length : Int) ≤ 281474976710656 then
  (F45 p (some (List.replicate (Int.toNat ((ls p.Code).length : Int)) (false : Bool))) 0 s from_ >>= fun r_3 =>
   (if Option.map List.length r_3 = Option.map List.length (some (List.replicate (Int.toNat ((ls p.Code).length : Int)) (false : Bool))) then
    (G36 (.p1 s p from_ none r_3))
   else none))
 else none)
theorem d36 (p : T34) (s : Str) (from_ : Int) (r : Sl Int) (hF : F36 p s from_ = some r) : DFun Try.prog noG 36 [v34 p, AV.str s, AV.int .i64 from_] (slV 1 (AV.int .i64) r) := by
 unfold F36 at hF
 refine bD k36 rfl ?_
 have hs : SH [] [] := SH.nil
 generalize ([] : Store) = st at hs ⊢
 refine rn 0 rfl ?_
 refine W.o (e_boxD (cs := c34 p) rfl rfl (c34_one _)) ?_
 refine rn 2 rfl ?_
 refine W.o (e_faddrD rfl) ?_
 refine W.o (l1D rfl rfl) ?_
 refine W.o (e_len (rd_V rfl)) ?_
 obtain ⟨g_2, hF⟩ := grd_some hF
 refine mkV (c := cB) (false : Bool) hs rfl rfl rfl g_2 fun st b_1 hs => ?_
 refine rn 1 rfl ?_
 refine W.o (lND (s := c34 p) rfl rfl rfl) ?_
 obtain ⟨r_3, g_4, hF⟩ := bind_some hF
 obtain ⟨g_5, hF⟩ := grd_some hF
 refine rn 3 rfl ?_
 refine cl (ale rfl) (d45 p (some (List.replicate (Int.toNat ((ls p.Code).length : Int)) (false : Bool))) 0 s from_ _ g_4 _ _ b_1 (fun st hs => ?_) _ hs)
 refine rn 2 rfl ?_
 have hs := hs.ownNil Int
 exact w36 (.p1 s p from_ none r_3) _ hF _ _ 0 b_1 ⟨rfl, rfl, rfl, (show rvV 1 (some (List.replicate (Int.toNat ((ls p.Code).length : Int)) (false : Bool))) b_1 = rvV 1 r_3 b_1 by simp only [rvV_vset, rvV_len g_5]), rfl, trivial⟩ hs
/-! ### 20: paddock/paddockref10.Ends -/
def C20_1 : ACode := .s (.ops [q 3 (.boxD 3 0), q 6 (.mv (.c .nils)), q 7 (.mv (ki 0))]) (.s (.ops [q 9 (.loadN 3 3), qc 10 35 [9], q 8 (.mv 10)]) (.s (.s (.ops [q 11 (.mv 8), q 12 (.binI .neq 11 (ki 0))]) (.cond 12 (.s (.ops [q 13 (.mv 8), q 6 (.mv (.c .nils)), q 7 (.mv 13)]) .ret) .skip)) (.s (.s (.ops [q 14 (.mv 2), q 15 (.binI .lss 14 (ki 0)), q 16 (.mv 15), (q 17 (.mv 2)).n 16, (q 18 (.mv 1)).n 16, (q 19 (.lenS 18)).n 16, (q 20 (.binI .gtr 17 19)).n 16, q 21 (.pick 16 (.c (.bool true)) 20)]) (.cond 21 (.s (.ops [q 6 (.mv (.c .nils)), q 7 (.mv (ki 2))]) .ret) .skip)) (.s (.ops [q 22 (.loadN 3 3), q 23 (.mv 1), q 24 (.mv 2), qc 25 36 [22, 23, 24], q 6 (.mv 25), q 7 (.mv (ki 0))]) .ret))))
def R20 : List RA := [(.tmp 6), (.tmp 7)]
theorem k20 : compF Try.prog (muL [3]) 20 = some ⟨26, C20_1, R20⟩ := by kernel_rfl
noncomputable abbrev X20 (r : Sl Int × Int) : Cx := cD Try.prog noG 26 R20 (AV.tup [slV 1 (AV.int .i64) r.1, AV.int .i64 r.2]) [3]
noncomputable def F20 (p : T34) (s : Str) (from_ : Int) : Option (Sl Int × Int) :=
 (F35 p >>= fun r_1 =>
  (if (r_1 != 0) = true then
   (some (none, r_1))
  else
   (if (decide (from_ < 0)) = true then
    (some (none, 2))
   else
    (if (decide (from_ > ((s).length : Int))) = true then
     (some (none, 2))
    else
     (F36 p s from_ >>= fun r_6 =>
      (some (r_6, 0)))))))
theorem d20 (p : T34) (s : Str) (from_ : Int) (r : Sl Int × Int) (hF : F20 p s from_ = some r) : DFun Try.prog noG 20 [v34 p, AV.str s, AV.int .i64 from_] (AV.tup [slV 1 (AV.int .i64) r.1, AV.int .i64 r.2]) := by
 unfold F20 at hF
 refine bD k20 rfl ?_
 have hs : SH [] [] := SH.nil
 generalize ([] : Store) = st at hs ⊢
 refine rn 0 rfl ?_
 refine W.o (e_boxD (cs := c34 p) rfl rfl (c34_one _)) ?_
 refine rn 2 rfl ?_
 refine W.o (lND (s := c34 p) rfl rfl rfl) ?_
 obtain ⟨r_1, g_2, hF⟩ := bind_some hF
 refine df (d35 p _ g_2) rfl ?_
 refine rn 3 rfl ?_
 refine ci hF rfl (fun c_3 hF => ?_) (fun c_3 hF => ?_)
 · refine rn 3 rfl ?_
   cases hF
   exact rD (rlt (rlt rl0)) rfl
 · refine rn 3 rfl ?_
   refine bi hF (fun c_4 hF => ?_) (fun c_4 hF => ?_)
   · refine wfx 16 rfl c_4 ?_
     refine rn 5 rfl ?_
     refine ct rfl rfl ?_
     refine rn 2 rfl ?_
     cases hF
     exact rD (rlt (rlt rl0)) rfl
   · refine wfx 16 rfl c_4 ?_
     refine rn 5 rfl ?_
     refine ci hF rfl (fun c_5 hF => ?_) (fun c_5 hF => ?_)
     · refine rn 2 rfl ?_
       cases hF
       exact rD (rlt (rlt rl0)) rfl
     · refine rn 0 rfl ?_
       refine W.o (lND (s := c34 p) rfl rfl rfl) ?_
       obtain ⟨r_6, g_7, hF⟩ := bind_some hF
       refine rn 2 rfl ?_
       refine df (d36 p s from_ _ g_7) rfl ?_
       refine rn 2 rfl ?_
       cases hF
       exact rD (rlt (rlt rl0)) rfl
/-! ### 22: paddock/paddockref10.Whole -/
def C22_31 : ACode := .cond 41 .skip (.exit 0)
def C22_28 : ACode := .s (.s (.ops [q 38 (.mv 10), q 39 (.mv 9), q 40 (.len 39), q 41 (.binI .lss 38 40)]) C22_31) (.s (.block 1 (.s (.draw [] 0 0 [q 44 (.mv 9), q 45 (.mv 10), q 46 (.iaddrL 1 44 45), q 47 (.load1 46), q 48 (.faddr 1 5), q 49 (.load1 48), q 50 (.binI .eql 47 49)] []) (.cond 50 (.s (.ops [q 6 (.mv (.c (.bool true))), q 7 (.mv (ki 0))]) .ret) .skip))) (.ops [q 42 (.mv 10), q 43 (.binI .add 42 (ki 1)), q 10 (.mv 43)]))
def C22_44 : ACode := .s (.ops [q 6 (.mv (.c (.bool false))), q 7 (.mv (ki 0))]) .ret
def C22_1 : ACode := .s (.ops [q 3 (.boxD 3 0), q 5 (.boxD 2 2), q 6 (.mv (.c (.bool false))), q 7 (.mv (ki 0))]) (.s (.ops [q 11 (.loadN 3 3), qc 12 35 [11], q 8 (.mv 12)]) (.s (.s (.ops [q 13 (.mv 8), q 14 (.binI .neq 13 (ki 0))]) (.cond 14 (.s (.ops [q 15 (.mv 8), q 6 (.mv (.c (.bool false))), q 7 (.mv 15)]) .ret) .skip)) (.s (.s (.ops [q 16 (.faddr 0 5), q 17 (.load1 16), q 18 (.binI .lss 17 (ki 0)), q 19 (.mv 18), (q 20 (.faddr 1 5)).n 19, (q 21 (.load1 20)).n 19, (q 22 (.faddr 0 5)).n 19, (q 23 (.load1 22)).n 19, (q 24 (.binI .lss 21 23)).n 19, q 25 (.pick 19 (.c (.bool true)) 24), q 26 (.mv 25), (q 27 (.faddr 1 5)).n 26, (q 28 (.load1 27)).n 26, (q 29 (.mv 1)).n 26, (q 30 (.lenS 29)).n 26, (q 31 (.binI .gtr 28 30)).n 26, q 32 (.pick 26 (.c (.bool true)) 31)]) (.cond 32 (.s (.ops [q 6 (.mv (.c (.bool false))), q 7 (.mv (ki 2))]) .ret) .skip)) (.s (.ops [q 33 (.loadN 3 3), q 34 (.mv 1), q 35 (.faddr 0 5), q 36 (.load1 35), qc 37 36 [33, 34, 36], q 9 (.mv 37)]) (.s (.s (.ops [q 10 (.mv (ki 0))]) (.block 0 (.loop C22_28))) C22_44)))))
def R22 : List RA := [(.tmp 6), (.tmp 7)]
theorem k22 : compF Try.prog (muL [3, 5]) 22 = some ⟨51, C22_1, R22⟩ := by kernel_rfl
noncomputable abbrev X22 (r : Bool × Int) : Cx := cD Try.prog noG 51 R22 (AV.tup [AV.bool r.1, AV.int .i64 r.2]) [3, 5]
inductive St22 where
 | p1 (at_ : T56) (l : Sl Int) (i : Int)
noncomputable def G22 : St22 → Option (Bool × Int)
 | .p1 at_ l i =>
  (if (decide (i < ((ls l).length : Int))) = true then
   (ix (ls l) i >>= fun v_10 =>
    (if (v_10 == at_.To) = true then
     (some (true, 0))
    else
     (G22 (.p1 at_ l (IntKind.wrap .i64 (i + 1))))))
  else
   (some (false, 0)))
 partial_fixpoint
def M22 (x : St22) (r : Bool × Int) : Prop := match x with
 | .p1 at_ l i => ∀ (tm : Fr) (st : Store), Frm tm [(5, .dptr (c56 at_)), (9, slV 1 (AV.int .i64) l), (10, AV.int .i64 i)] → SH st [] → W (X22 r) [.lp C22_28, .blk 0, .code C22_44] tm st
theorem w22 : ∀ (x : St22) (r : Bool × Int), G22 x = some r → M22 x r := by
 refine G22.partial_correctness (M22) ?_
 intro g ih x r hF
 cases x with
 | p1 at_ l i =>
  dsimp only at hF
  intro tm st hf hs
  refine en hf ?_
  refine lp ?_
  refine rn 2 rfl ?_
  refine W.o (e_len (rd_V rfl)) ?_
  refine rn 1 rfl ?_
  refine ci hF rfl (fun c_9 hF => ?_) (fun c_9 hF => ?_)
  · refine rn 0 rfl ?_
    have h0 := hs
    refine dr0 ?_
    obtain ⟨v_10, g_11, hF⟩ := bind_some hF
    refine dn 2 rfl ?_
    refine de rfl (e_iaddrL (rd_V rfl) rfl g_11) ?_
    refine de rfl (l1D rfl rfl) ?_
    refine de rfl (e_faddrD rfl) ?_
    refine de rfl (l1D rfl rfl) ?_
    refine dn 1 rfl ?_
    refine dz ?_
    refine rn 0 rfl ?_
    refine ci hF rfl (fun c_12 hF => ?_) (fun c_12 hF => ?_)
    · refine rn 2 rfl ?_
      cases hF
      exact rD (rlt (rlt rl0)) rfl
    · refine rn 3 rfl ?_
      exact ih (.p1 at_ l (IntKind.wrap .i64 (i + 1))) _ hF _ _ ⟨rfl, rfl, rfl, trivial⟩ hs
  · refine rn 2 rfl ?_
    cases hF
    exact rD (rlt (rlt rl0)) rfl
noncomputable def F22 (p : T34) (s : Str) (at_ : T56) : Option (Bool × Int) :=
 (F35 p >>= fun r_1 =>
  (if (r_1 != 0) = true then
   (some (false, r_1))
  else
   (if (decide (at_.From < 0)) = true then
    (some (false, 2))
   else
    (if (decide (at_.To < at_.From)) = true then
     (some (false, 2))
    else
     (if (decide (at_.To > ((s).length : Int))) = true then
      (some (false, 2))
     else
      (F36 p s at_.From >>= fun r_7 =>
       (G22 (.p1 at_ r_7 0))))))))
theorem d22 (p : T34) (s : Str) (at_ : T56) (r : Bool × Int) (hF : F22 p s at_ = some r) : DFun Try.prog noG 22 [v34 p, AV.str s, v56 at_] (AV.tup [AV.bool r.1, AV.int .i64 r.2]) := by
 unfold F22 at hF
 refine bD k22 rfl ?_
 have hs : SH [] [] := SH.nil
 generalize ([] : Store) = st at hs ⊢
 refine rn 0 rfl ?_
 refine W.o (e_boxD (cs := c34 p) rfl rfl (c34_one _)) ?_
 refine W.o (e_boxD (cs := c56 at_) rfl rfl rfl) ?_
 refine rn 2 rfl ?_
 refine W.o (lND (s := c34 p) rfl rfl rfl) ?_
 obtain ⟨r_1, g_2, hF⟩ := bind_some hF
 refine df (d35 p _ g_2) rfl ?_
 refine rn 3 rfl ?_
 refine ci hF rfl (fun c_3 hF => ?_) (fun c_3 hF => ?_)
 · refine rn 3 rfl ?_
   cases hF
   exact rD (rlt (rlt rl0)) rfl
 · refine rn 0 rfl ?_
   refine W.o (e_faddrD rfl) ?_
   refine W.o (l1D rfl rfl) ?_
   refine rn 2 rfl ?_
   refine bi hF (fun c_4 hF => ?_) (fun c_4 hF => ?_)
   · refine wfx 19 rfl c_4 ?_
     refine rn 13 rfl ?_
     refine ct rfl rfl ?_
     refine rn 2 rfl ?_
     cases hF
     exact rD (rlt (rlt rl0)) rfl
   · refine wfx 19 rfl c_4 ?_
     refine W.on rfl rfl ?_
     refine W.o (e_faddrD rfl) ?_
     refine W.on rfl rfl ?_
     refine W.o (l1D rfl rfl) ?_
     refine W.on rfl rfl ?_
     refine W.o (e_faddrD rfl) ?_
     refine W.on rfl rfl ?_
     refine W.o (l1D rfl rfl) ?_
     refine rn 3 rfl ?_
     refine bi hF (fun c_5 hF => ?_) (fun c_5 hF => ?_)
     · refine wfx 26 rfl c_5 ?_
       refine rn 6 rfl ?_
       refine ct rfl rfl ?_
       refine rn 2 rfl ?_
       cases hF
       exact rD (rlt (rlt rl0)) rfl
     · refine wfx 26 rfl c_5 ?_
       refine W.on rfl rfl ?_
       refine W.o (e_faddrD rfl) ?_
       refine W.on rfl rfl ?_
       refine W.o (l1D rfl rfl) ?_
       refine rn 4 rfl ?_
       refine ci hF rfl (fun c_6 hF => ?_) (fun c_6 hF => ?_)
       · refine rn 2 rfl ?_
         cases hF
         exact rD (rlt (rlt rl0)) rfl
       · refine rn 0 rfl ?_
         refine W.o (lND (s := c34 p) rfl rfl rfl) ?_
         refine rn 1 rfl ?_
         refine W.o (e_faddrD rfl) ?_
         refine W.o (l1D rfl rfl) ?_
         obtain ⟨r_7, g_8, hF⟩ := bind_some hF
         refine df (d36 p s at_.From _ g_8) rfl ?_
         refine rn 2 rfl ?_
         exact w22 (.p1 at_ r_7 0) _ hF _ _ ⟨rfl, rfl, rfl, trivial⟩ hs
/-! ### 24: paddock/paddockref10.Match -/
def C24_17 : ACode := .s (.ops [q 26 (.build [(.int .i64 0), (.int .i64 0)] []), q0 (.store 2 6 26), q 7 (.mv (.c (.bool false))), q 8 (.mv (ki 2))]) .ret
def C24_34 : ACode := .s (.ops [q 34 (.loadN 3 3), q 35 (.mv 1), q 36 (.mv 10), qc 37 36 [34, 35, 36], q 11 (.mv 37)]) (.s (.ops [q 38 (.mv 11), q 39 (.len 38), q 40 (.binI .gtr 39 (ki 0))]) (.cond 40 (.s (.ops [q 41 (.mv 10), q 42 (.mv 11), q 43 (.mv 11), q 44 (.len 43), q 45 (.binI .sub 44 (ki 1)), q 46 (.iaddrL 1 42 45), q 47 (.load1 46), q 48 (.build [(.int .i64 0), (.int .i64 0)] [(0, (1, 41)), (1, (1, 47))]), q0 (.store 2 6 48), q 7 (.mv (.c (.bool true))), q 8 (.mv (ki 0))]) .ret) .skip))
def C24_26 : ACode := .s (.s (.ops [q 28 (.mv 10), q 29 (.mv 1), q 30 (.lenS 29), q 31 (.binI .leq 28 30)]) (.cond 31 .skip (.exit 0))) (.s (.block 1 C24_34) (.ops [q 32 (.mv 10), q 33 (.binI .add 32 (ki 1)), q 10 (.mv 33)]))
def C24_44 : ACode := .s (.ops [q 49 (.build [(.int .i64 0), (.int .i64 0)] []), q0 (.store 2 6 49), q 7 (.mv (.c (.bool false))), q 8 (.mv (ki 0))]) .ret
def C24_21 : ACode := .s (.s (.ops [q 27 (.mv 2), q 10 (.mv 27)]) (.block 0 (.loop C24_26))) C24_44
def C24_1 : ACode := .s (.ops [q 3 (.boxD 3 0), q 6 (.alloc [(.int .i64 0), (.int .i64 0)]), q 7 (.mv (.c (.bool false))), q 8 (.mv (ki 0))]) (.s (.ops [q 12 (.loadN 3 3), qc 13 35 [12], q 9 (.mv 13)]) (.s (.s (.ops [q 14 (.mv 9), q 15 (.binI .neq 14 (ki 0))]) (.cond 15 (.s (.ops [q 16 (.build [(.int .i64 0), (.int .i64 0)] []), q 17 (.mv 9), q0 (.store 2 6 16), q 7 (.mv (.c (.bool false))), q 8 (.mv 17)]) .ret) .skip)) (.s (.s (.ops [q 18 (.mv 2), q 19 (.binI .lss 18 (ki 0)), q 20 (.mv 19), (q 21 (.mv 2)).n 20, (q 22 (.mv 1)).n 20, (q 23 (.lenS 22)).n 20, (q 24 (.binI .gtr 21 23)).n 20, q 25 (.pick 20 (.c (.bool true)) 24)]) (.cond 25 C24_17 .skip)) C24_21)))
def R24 : List RA := [(.cellN 6 2), (.tmp 7), (.tmp 8)]
theorem k24 : compF Try.prog (muL [3]) 24 = some ⟨50, C24_1, R24⟩ := by kernel_rfl
noncomputable abbrev X24 (r : T56 × Bool × Int) : Cx := cD Try.prog noG 50 R24 (AV.tup [v56 r.1, AV.bool r.2.1, AV.int .i64 r.2.2]) [3]
inductive St24 where
 | p1 (t6_ : T56)
 | p2 (s : Str) (p : T34) (i : Int) (t6_ : T56)
noncomputable def G24 : St24 → Option (T56 × Bool × Int)
 | .p1 t6_ =>
  (some (({ From := 0, To := 0 } : T56), false, 2))
 | .p2 s p i t6_ =>
  (if (decide (i ≤ ((s).length : Int))) = true then
   (F36 p s i >>= fun r_8 =>
    (if (decide (((ls r_8).length : Int) > 0)) = true then
     (ix (ls r_8) (IntKind.wrap .i64 (((ls r_8).length : Int) - 1)) >>= fun v_11 =>
      (some (({ From := i, To := v_11 } : T56), true, 0)))
    else
     (G24 (.p2 s p (IntKind.wrap .i64 (i + 1)) t6_))))
  else
   (some (({ From := 0, To := 0 } : T56), false, 0)))
 partial_fixpoint
def M24 (x : St24) (r : T56 × Bool × Int) : Prop := match x with
 | .p1 t6_ => ∀ (tm : Fr) (st : Store) (io0 : Nat), Frm tm [(6, .ptr io0 0)] → SH st [pt io0 (.cells (c56 t6_))] → W (X24 r) [.code C24_17, .code C24_21] tm st
 | .p2 s p i t6_ => ∀ (tm : Fr) (st : Store) (io0 : Nat), Frm tm [(1, AV.str s), (3, .dptr (c34 p)), (6, .ptr io0 0), (10, AV.int .i64 i)] → SH st [pt io0 (.cells (c56 t6_))] → W (X24 r) [.lp C24_26, .blk 0, .code C24_44] tm st
theorem w24 : ∀ (x : St24) (r : T56 × Bool × Int), G24 x = some r → M24 x r := by
 refine G24.partial_correctness (M24) ?_
 intro g ih x r hF
 cases x with
 | p1 t6_ =>
  dsimp only at hF
  intro tm st io0 hf hs
  refine en hf ?_
  refine rn 0 rfl ?_
  refine W.o (bR (cs := c56 ({ From := 0, To := 0 } : T56)) rfl rfl) ?_
  refine sr hs 0 rfl rfl rfl (cs' := c56 ({ From := 0, To := 0 } : T56)) rfl rfl fun st hs => ?_
  refine rn 2 rfl ?_
  cases hF
  exact rD (rl_cellN rfl (hs.g 0 rfl) (LR.whole _ _) (c56_len _) (rlt (rlt rl0))) rfl
 | p2 s p i t6_ =>
  dsimp only at hF
  intro tm st io0 hf hs
  refine en hf ?_
  refine lp ?_
  refine rn 4 rfl ?_
  refine ci hF rfl (fun c_7 hF => ?_) (fun c_7 hF => ?_)
  · refine rn 0 rfl ?_
    refine W.o (lND (s := c34 p) rfl rfl rfl) ?_
    obtain ⟨r_8, g_9, hF⟩ := bind_some hF
    refine rn 2 rfl ?_
    refine df (d36 p s i _ g_9) rfl ?_
    refine rn 2 rfl ?_
    refine W.o (e_len (rd_V rfl)) ?_
    refine rn 1 rfl ?_
    refine ci hF rfl (fun c_10 hF => ?_) (fun c_10 hF => ?_)
    · refine rn 3 rfl ?_
      refine W.o (e_len (rd_V rfl)) ?_
      obtain ⟨v_11, g_12, hF⟩ := bind_some hF
      refine rn 1 rfl ?_
      refine W.o (e_iaddrL (rd_V rfl) rfl g_12) ?_
      refine W.o (l1D rfl rfl) ?_
      refine W.o (bR (cs := c56 ({ From := i, To := v_11 } : T56)) rfl rfl) ?_
      refine sr hs 0 rfl rfl rfl (cs' := c56 ({ From := i, To := v_11 } : T56)) rfl rfl fun st hs => ?_
      refine rn 2 rfl ?_
      cases hF
      exact rD (rl_cellN rfl (hs.g 0 rfl) (LR.whole _ _) (c56_len _) (rlt (rlt rl0))) rfl
    · refine rn 3 rfl ?_
      exact ih (.p2 s p (IntKind.wrap .i64 (i + 1)) t6_) _ hF _ _ io0 ⟨rfl, rfl, rfl, rfl, trivial⟩ hs
  · refine rn 0 rfl ?_
    refine W.o (bR (cs := c56 ({ From := 0, To := 0 } : T56)) rfl rfl) ?_
    refine sr hs 0 rfl rfl rfl (cs' := c56 ({ From := 0, To := 0 } : T56)) rfl rfl fun st hs => ?_
    refine rn 2 rfl ?_
    cases hF
    exact rD (rl_cellN rfl (hs.g 0 rfl) (LR.whole _ _) (c56_len _) (rlt (rlt rl0))) rfl
noncomputable def F24 (p : T34) (s : Str) (from_ : Int) : Option (T56 × Bool × Int) :=
 (F35 p >>= fun r_2 =>
  (if (r_2 != 0) = true then
   (some (({ From := 0, To := 0 } : T56), false, r_2))
  else
   (if (decide (from_ < 0)) = true then
    (G24 (.p1 ({ From := 0, To := 0 } : T56)))
   else
    (if (decide (from_ > ((s).length : Int))) = true then
     (G24 (.p1 ({ From := 0, To := 0 } : T56)))
    else
     (G24 (.p2 s p from_ ({ From := 0, To := 0 } : T56)))))))
theorem d24 (p : T34) (s : Str) (from_ : Int) (r : T56 × Bool × Int) (hF : F24 p s from_ = some r) : DFun Try.prog noG 24 [v34 p, AV.str s, AV.int .i64 from_] (AV.tup [v56 r.1, AV.bool r.2.1, AV.int .i64 r.2.2]) := by
 unfold F24 at hF
 refine bD k24 rfl ?_
 have hs : SH [] [] := SH.nil
 generalize ([] : Store) = st at hs ⊢
 refine rn 0 rfl ?_
 refine W.o (e_boxD (cs := c34 p) rfl rfl (c34_one _)) ?_
 refine al hs (cs := c56 ({ From := 0, To := 0 } : T56)) rfl fun st b_1 hs => ?_
 refine rn 2 rfl ?_
 refine W.o (lND (s := c34 p) rfl rfl rfl) ?_
 obtain ⟨r_2, g_3, hF⟩ := bind_some hF
 refine df (d35 p _ g_3) rfl ?_
 refine rn 3 rfl ?_
 refine ci hF rfl (fun c_4 hF => ?_) (fun c_4 hF => ?_)
 · refine rn 0 rfl ?_
   refine W.o (bR (cs := c56 ({ From := 0, To := 0 } : T56)) rfl rfl) ?_
   refine rn 1 rfl ?_
   refine sr hs 0 rfl rfl rfl (cs' := c56 ({ From := 0, To := 0 } : T56)) rfl rfl fun st hs => ?_
   refine rn 2 rfl ?_
   cases hF
   exact rD (rl_cellN rfl (hs.g 0 rfl) (LR.whole _ _) (c56_len _) (rlt (rlt rl0))) rfl
 · refine rn 3 rfl ?_
   refine bi hF (fun c_5 hF => ?_) (fun c_5 hF => ?_)
   · refine wfx 20 rfl c_5 ?_
     refine rn 5 rfl ?_
     refine ct rfl rfl ?_
     exact w24 (.p1 ({ From := 0, To := 0 } : T56)) _ hF _ _ b_1 ⟨rfl, trivial⟩ hs
   · refine wfx 20 rfl c_5 ?_
     refine rn 5 rfl ?_
     refine ci hF rfl (fun c_6 hF => ?_) (fun c_6 hF => ?_)
     · exact w24 (.p1 ({ From := 0, To := 0 } : T56)) _ hF _ _ b_1 ⟨rfl, trivial⟩ hs
     · refine rn 2 rfl ?_
       exact w24 (.p2 s p from_ ({ From := 0, To := 0 } : T56)) _ hF _ _ b_1 ⟨rfl, rfl, rfl, rfl, trivial⟩ hs
/-! ### 6: paddock/paddocklaw10.NfaRuns -/
def C6_33 : ACode := .s (.ops [q 6 (.mv (.c (.bool false)))]) .ret
def C6_41 : ACode := .s (.ops [q 90 (.loadN 2 14), q 91 (.loadN 2 16), q 92 (.eqA false [.i, .i] 90 91), q 93 (.mv 92), (q 94 (.mv 15)).y 93, (q 95 (.mv 17)).y 93, (q 96 (.eqB false 94 95)).y 93, q 97 (.pick 93 96 (.c (.bool false))), q 98 (.mv 97), (q 99 (.mv 9)).y 98, (q 100 (.mv 11)).y 98, (q 101 (.binI .eql 99 100)).y 98, q 102 (.pick 98 101 (.c (.bool false))), q 103 (.mv 102), (q 104 (.loadN 3 7)).y 103, (q 105 (.loadN 3 3)).y 103, (qc 106 18 [104, 105]).y 103, q 107 (.pick 103 106 (.c (.bool false))), q 108 (.mv 107), (qc 109 8 []).y 108, q 110 (.pick 108 109 (.c (.bool false))), q 6 (.mv 110)]) .ret
def C6_1 : ACode := .s (.ops [q 3 (.boxD 3 0), q 5 (.boxD 2 2), q 6 (.mv (.c (.bool false)))]) (.s (.ops [q 18 (.loadN 3 3), qc 19 16 [18], q 7 (.alloc [(.int .i64 0), (.int .i64 0), .nils]), q0 (.store 3 7 19)]) (.s (.s (.draw [] 0 0 [q 20 (.loadN 3 7), q 22 (.loadN 3 3), qc 21 11 [20], qc 23 19 [22], q 24 (.eqB true 21 23)] []) (.cond 24 (.s (.ops [q 6 (.mv (.c (.bool false)))]) .ret) .skip)) (.s (.ops [q 26 (.loadN 3 7), q 27 (.mv 1), q 28 (.faddr 0 5), q 29 (.load1 28), qc 30 17 [26, 27, 29], q 25 (.mv 30), q 31 (.extract 25 0), q 32 (.extract 25 1), q 8 (.mv 31), q 9 (.mv 32)]) (.s (.ops [q 34 (.loadN 3 3), q 35 (.mv 1), q 36 (.faddr 0 5), q 37 (.load1 36), qc 38 20 [34, 35, 37], q 33 (.mv 38), q 39 (.extract 33 0), q 40 (.extract 33 1), q 10 (.mv 39), q 11 (.mv 40)]) (.s (.s (.ops [q 41 (.mv 8), q 42 (.mv 10), qc 43 15 [41, 42], q 44 (.un .not 43), q 45 (.mv 44), (q 46 (.mv 9)).n 45, (q 47 (.mv 11)).n 45, (q 48 (.binI .neq 46 47)).n 45, q 49 (.pick 45 (.c (.bool true)) 48)]) (.cond 49 (.s (.ops [q 6 (.mv (.c (.bool false)))]) .ret) .skip)) (.s (.ops [q 51 (.loadN 3 7), q 52 (.mv 1), q 53 (.loadN 2 5), qc 54 21 [51, 52, 53], q 50 (.mv 54), q 55 (.extract 50 0), q 56 (.extract 50 1), q 12 (.mv 55), q 9 (.mv 56)]) (.s (.ops [q 58 (.loadN 3 3), q 59 (.mv 1), q 60 (.loadN 2 5), qc 61 22 [58, 59, 60], q 57 (.mv 61), q 62 (.extract 57 0), q 63 (.extract 57 1), q 13 (.mv 62), q 11 (.mv 63)]) (.s (.s (.ops [q 64 (.mv 12), q 65 (.mv 13), q 66 (.eqB true 64 65), q 67 (.mv 66), (q 68 (.mv 9)).n 67, (q 69 (.mv 11)).n 67, (q 70 (.binI .neq 68 69)).n 67, q 71 (.pick 67 (.c (.bool true)) 70)]) (.cond 71 C6_33 .skip)) (.s (.ops [q 73 (.loadN 3 7), q 74 (.mv 1), q 75 (.faddr 0 5), q 76 (.load1 75), qc 77 23 [73, 74, 76], q 72 (.mv 77), q 78 (.extract 72 0), q 79 (.extract 72 1), q 80 (.extract 72 2), q 14 (.alloc [(.int .i64 0), (.int .i64 0)]), q0 (.store 2 14 78), q 15 (.mv 79), q 9 (.mv 80)]) (.s (.ops [q 82 (.loadN 3 3), q 83 (.mv 1), q 84 (.faddr 0 5), q 85 (.load1 84), qc 86 24 [82, 83, 85], q 81 (.mv 86), q 87 (.extract 81 0), q 88 (.extract 81 1), q 89 (.extract 81 2), q 16 (.alloc [(.int .i64 0), (.int .i64 0)]), q0 (.store 2 16 87), q 17 (.mv 88), q 11 (.mv 89)]) C6_41))))))))))
def R6 : List RA := [(.tmp 6)]
theorem k6 : compF Try.prog (muL [3, 5]) 6 = some ⟨111, C6_1, R6⟩ := by kernel_rfl
noncomputable abbrev X6 (r : Bool) : Cx := cD Try.prog noG 111 R6 (AV.bool r) [3, 5]
noncomputable def F6 (p : T34) (s : Str) (at_ : T56) : Option Bool :=
 (F16 p >>= fun r_1 =>
  (F11 r_1 >>= fun r_4 =>
   (F19 p >>= fun r_6 =>
    (if (!(r_4 == r_6)) = true then
     (some false)
    else
     (F17 r_1 s at_.From >>= fun r_9 =>
      (F20 p s at_.From >>= fun r_11 =>
       (F15 r_9.1 r_11.1 >>= fun r_13 =>
        (if (!r_13) = true then
         (some false)
        else
         (if (r_9.2 != r_11.2) = true then
          (some false)
         else
          (F21 r_1 s at_ >>= fun r_17 =>
           (F22 p s at_ >>= fun r_19 =>
            (if (!(r_17.1 == r_19.1)) = true then
             (some false)
            else
             (if (r_17.2 != r_19.2) = true then
              (some false)
             else
              (F23 r_1 s at_.From >>= fun r_23 =>
               (F24 p s at_.From >>= fun r_26 =>
                (if (decide (r_23.1 = r_26.1)) = true then
                 (if (r_23.2.1 == r_26.2.1) = true then
                  (if (r_23.2.2 == r_26.2.2) = true then
                   (F18 r_1 p >>= fun r_32 =>
                    (if r_32 = true then
                     (F8 >>= fun r_35 =>
                      (some r_35))
                    else
                     (some false)))
                  else
                   (some false))
                 else
                  (some false))
                else
                 (some false)))))))))))))))))
theorem d6 (p : T34) (s : Str) (at_ : T56) (r : Bool) (hF : F6 p s at_ = some r) : DFun Try.prog noG 6 [v34 p, AV.str s, v56 at_] (AV.bool r) := by
 unfold F6 at hF
 refine bD k6 rfl ?_
 have hs : SH [] [] := SH.nil
 generalize ([] : Store) = st at hs ⊢
 refine rn 0 rfl ?_
 refine W.o (e_boxD (cs := c34 p) rfl rfl (c34_one _)) ?_
 refine W.o (e_boxD (cs := c56 at_) rfl rfl rfl) ?_
 refine rn 1 rfl ?_
 refine W.o (lND (s := c34 p) rfl rfl rfl) ?_
 obtain ⟨r_1, g_2, hF⟩ := bind_some hF
 refine df (d16 p _ g_2) rfl ?_
 refine al hs (cs := c34 ({ Groups := 0, Slots := 0, Code := none } : T34)) rfl fun st b_3 hs => ?_
 refine sl hs 0 rfl rfl (LR.whole _ _) (c34_len _) rfl (c34_len _) (c34_one _) rfl fun st hs => ?_
 refine rn 0 rfl ?_
 have h0 := hs
 refine dr0 ?_
 refine de rfl (lN (s := c34 r_1) rfl (h0.g 0 rfl) rfl rfl) ?_
 refine de rfl (lND (s := c34 p) rfl rfl rfl) ?_
 obtain ⟨r_4, g_5, hF⟩ := bind_some hF
 refine ddf (d11 r_1 _ g_5) rfl ?_
 obtain ⟨r_6, g_7, hF⟩ := bind_some hF
 refine ddf (d19 p _ g_7) rfl ?_
 refine dn 1 rfl ?_
 refine dz ?_
 refine rn 0 rfl ?_
 refine ci hF rfl (fun c_8 hF => ?_) (fun c_8 hF => ?_)
 · refine rn 1 rfl ?_
   cases hF
   exact rD (rlt rl0) rfl
 · refine rn 0 rfl ?_
   refine W.o (lN (s := c34 r_1) rfl (hs.g 0 rfl) rfl rfl) ?_
   refine rn 1 rfl ?_
   refine W.o (e_faddrD rfl) ?_
   refine W.o (l1D rfl rfl) ?_
   obtain ⟨r_9, g_10, hF⟩ := bind_some hF
   refine df (d17 r_1 s at_.From _ g_10) rfl ?_
   refine rn 5 rfl ?_
   refine W.o (lND (s := c34 p) rfl rfl rfl) ?_
   refine rn 1 rfl ?_
   refine W.o (e_faddrD rfl) ?_
   refine W.o (l1D rfl rfl) ?_
   obtain ⟨r_11, g_12, hF⟩ := bind_some hF
   refine df (d20 p s at_.From _ g_12) rfl ?_
   obtain ⟨r_13, g_14, hF⟩ := bind_some hF
   refine rn 7 rfl ?_
   refine df (d15 r_9.1 r_11.1 _ g_14) rfl ?_
   refine rn 2 rfl ?_
   refine bi hF (fun c_15 hF => ?_) (fun c_15 hF => ?_)
   · refine wfx 45 rfl c_15 ?_
     refine rn 4 rfl ?_
     refine ct rfl rfl ?_
     refine rn 1 rfl ?_
     cases hF
     exact rD (rlt rl0) rfl
   · refine wfx 45 rfl c_15 ?_
     refine rn 4 rfl ?_
     refine ci hF rfl (fun c_16 hF => ?_) (fun c_16 hF => ?_)
     · refine rn 1 rfl ?_
       cases hF
       exact rD (rlt rl0) rfl
     · refine rn 0 rfl ?_
       refine W.o (lN (s := c34 r_1) rfl (hs.g 0 rfl) rfl rfl) ?_
       refine rn 1 rfl ?_
       refine W.o (lND (s := c56 at_) rfl rfl rfl) ?_
       obtain ⟨r_17, g_18, hF⟩ := bind_some hF
       refine df (d21 r_1 s at_ _ g_18) rfl ?_
       refine rn 5 rfl ?_
       refine W.o (lND (s := c34 p) rfl rfl rfl) ?_
       refine rn 1 rfl ?_
       refine W.o (lND (s := c56 at_) rfl rfl rfl) ?_
       obtain ⟨r_19, g_20, hF⟩ := bind_some hF
       refine df (d22 p s at_ _ g_20) rfl ?_
       refine rn 9 rfl ?_
       refine bi hF (fun c_21 hF => ?_) (fun c_21 hF => ?_)
       · refine wfx 67 rfl c_21 ?_
         refine rn 4 rfl ?_
         refine ct rfl rfl ?_
         refine rn 1 rfl ?_
         cases hF
         exact rD (rlt rl0) rfl
       · refine wfx 67 rfl c_21 ?_
         refine rn 4 rfl ?_
         refine ci hF rfl (fun c_22 hF => ?_) (fun c_22 hF => ?_)
         · refine rn 1 rfl ?_
           cases hF
           exact rD (rlt rl0) rfl
         · refine rn 0 rfl ?_
           refine W.o (lN (s := c34 r_1) rfl (hs.g 0 rfl) rfl rfl) ?_
           refine rn 1 rfl ?_
           refine W.o (e_faddrD rfl) ?_
           refine W.o (l1D rfl rfl) ?_
           obtain ⟨r_23, g_24, hF⟩ := bind_some hF
           refine df (d23 r_1 s at_.From _ g_24) rfl ?_
           refine rn 4 rfl ?_
           refine al hs (cs := c56 ({ From := 0, To := 0 } : T56)) rfl fun st b_25 hs => ?_
           refine sr hs 0 rfl rfl rfl (cs' := c56 r_23.1) rfl rfl fun st hs => ?_
           refine rn 2 rfl ?_
           refine W.o (lND (s := c34 p) rfl rfl rfl) ?_
           refine rn 1 rfl ?_
           refine W.o (e_faddrD rfl) ?_
           refine W.o (l1D rfl rfl) ?_
           obtain ⟨r_26, g_27, hF⟩ := bind_some hF
           refine df (d24 p s at_.From _ g_27) rfl ?_
           refine rn 4 rfl ?_
           refine al hs (cs := c56 ({ From := 0, To := 0 } : T56)) rfl fun st b_28 hs => ?_
           refine sr hs 0 rfl rfl rfl (cs' := c56 r_26.1) rfl rfl fun st hs => ?_
           refine rn 2 rfl ?_
           refine W.o (lN (s := c56 r_23.1) rfl (hs.g 1 rfl) rfl rfl) ?_
           refine W.o (lN (s := c56 r_26.1) rfl (hs.g 0 rfl) rfl rfl) ?_
           refine W.o (e_eqA rfl rfl (c56_eq r_23.1 r_26.1)) ?_
           refine rn 1 rfl ?_
           refine bi hF (fun c_29 hF => ?_) (fun c_29 hF => ?_)
           · refine wfx 93 rfl c_29 ?_
             refine rn 5 rfl ?_
             refine bi hF (fun c_30 hF => ?_) (fun c_30 hF => ?_)
             · refine wfx 98 rfl c_30 ?_
               refine rn 5 rfl ?_
               refine bi hF (fun c_31 hF => ?_) (fun c_31 hF => ?_)
               · refine wfx 103 rfl c_31 ?_
                 refine W.on rfl rfl ?_
                 refine W.o (lN (s := c34 r_1) rfl (hs.g 2 rfl) rfl rfl) ?_
                 refine W.on rfl rfl ?_
                 refine W.o (lND (s := c34 p) rfl rfl rfl) ?_
                 obtain ⟨r_32, g_33, hF⟩ := bind_some hF
                 refine W.on rfl rfl ?_
                 refine df (d18 r_1 p _ g_33) rfl ?_
                 refine rn 2 rfl ?_
                 refine bi hF (fun c_34 hF => ?_) (fun c_34 hF => ?_)
                 · refine wfx 108 rfl c_34 ?_
                   obtain ⟨r_35, g_36, hF⟩ := bind_some hF
                   refine W.on rfl rfl ?_
                   refine df (d8 _ g_36) rfl ?_
                   refine rn 2 rfl ?_
                   cases hF
                   exact rD (rlt rl0) rfl
                 · refine wfx 108 rfl c_34 ?_
                   refine rn 3 rfl ?_
                   cases hF
                   exact rD (rlt rl0) rfl
               · refine wfx 103 rfl c_31 ?_
                 refine rn 8 rfl ?_
                 cases hF
                 exact rD (rlt rl0) rfl
             · refine wfx 98 rfl c_30 ?_
               refine rn 13 rfl ?_
               cases hF
               exact rD (rlt rl0) rfl
           · refine wfx 93 rfl c_29 ?_
             refine rn 18 rfl ?_
             cases hF
             exact rD (rlt rl0) rfl
end Go.Proofs.Ytjbafmnocopofaa
end
section
/-
  Plain words for printed functions: binds, guards, wrapped numbers, lists read by index, slices as lists.
-/

namespace Go.Proofs.Ytjbafmnocopofaa
open Go AW
set_option linter.unusedVariables false
set_option linter.unusedSimpArgs false
theorem sm {α β : Type} (a : α) (f : α → Option β) : (some a >>= f) = f a := rfl
theorem ti {α : Type} {b : Bool} {x y : α} (h : b = true) : (if b = true then x else y) = x := if_pos h
theorem fi_ {α : Type} {b : Bool} {x y : α} (h : b = false) : (if b = true then x else y) = y := by rw [h]; rfl
theorem dti {p : Prop} [Decidable p] {α : Type} {x y : α} (h : p) : (if decide p = true then x else y) = x := by simp [h]
theorem dfi {p : Prop} [Decidable p] {α : Type} {x y : α} (h : ¬ p) : (if decide p = true then x else y) = y := by simp [h]
theorem eti {a b : Int} {α : Type} {x y : α} (h : a = b) : (if (a == b) = true then x else y) = x := by simp [h]
theorem efi {a b : Int} {α : Type} {x y : α} (h : a ≠ b) : (if (a == b) = true then x else y) = y := by simp [h]
theorem nti {a b : Int} {α : Type} {x y : α} (h : a ≠ b) : (if (a != b) = true then x else y) = x := by simp [h]
theorem nfi {a b : Int} {α : Type} {x y : α} (h : a = b) : (if (a != b) = true then x else y) = y := by simp [h]
theorem wi (x : Int) (h : -9223372036854775808 ≤ x) (h' : x ≤ 9223372036854775807) : IntKind.wrap .i64 x = x := by
  simp only [IntKind.wrap, IntKind.bits, IntKind.signed, Bool.true_and, decide_eq_true_eq, ge_iff_le]
  have e : (2 : Int) ^ 64 = 18446744073709551616 := by decide
  have e' : (2 : Int) ^ (64 - 1) = 9223372036854775808 := by decide
  first
    | (split <;> omega)
    | (simp only [e, e']; split <;> omega)
theorem wn (n : Nat) (h : n ≤ 9223372036854775807) : IntKind.wrap .i64 (n : Int) = n := wi _ (by omega) (by omega)
theorem wn1 (n : Nat) (h : n < 9223372036854775807) : IntKind.wrap .i64 ((n : Int) + 1) = ((n + 1 : Nat) : Int) := by rw [wi _ (by omega) (by omega)]; omega
theorem wm1 (n : Nat) (h : 1 ≤ n) (h' : n < 9223372036854775807) : IntKind.wrap .i64 ((n : Int) - 1) = ((n - 1 : Nat) : Int) := by rw [wi _ (by omega) (by omega)]; omega
theorem ixs {α : Type} {l : List α} {i : Nat} {c : α} (h : l[i]? = some c) : ix l (i : Int) = some c := by rw [ix_nat]; exact h
theorem ixz {α : Type} {l : List α} {i : Int} {c : α} (h0 : 0 ≤ i) (h : l[i.toNat]? = some c) : ix l i = some c := by simp only [ix, if_pos h0, h]
theorem get_ex {α : Type} (l : List α) {i : Nat} (h : i < l.length) : ∃ c, l[i]? = some c := ⟨l[i], by simp [h]⟩
theorem drop_cons {α : Type} {l : List α} {i : Nat} {c : α} (h : l[i]? = some c) : l.drop i = c :: l.drop (i + 1) := by
  have hi : i < l.length := by rw [List.getElem?_eq_some_iff] at h; exact h.1
  rw [List.drop_eq_getElem_cons hi]
  congr 1
  rw [List.getElem?_eq_some_iff] at h
  exact h.2
theorem take_snoc {α : Type} {l : List α} {i : Nat} {c : α} (h : l[i]? = some c) : l.take (i + 1) = l.take i ++ [c] := by
  rw [List.take_add_one, h]; rfl
theorem ge_lt {α : Type} {l : List α} {i : Nat} {c : α} (h : l[i]? = some c) : i < l.length := by rw [List.getElem?_eq_some_iff] at h; exact h.1
/-- A list as the program keeps it. -/
def so {α : Type} : List α → Sl α
  | [] => none
  | x :: l => some (x :: l)
theorem ls_so {α : Type} (l : List α) : ls (so l) = l := by cases l <;> rfl
theorem sapp_so {α : Type} (l m : List α) : sapp (so l) m = so (l ++ m) := by
  cases l with
  | nil => cases m <;> rfl
  | cons x l => rfl
theorem so_nil {α : Type} : (so [] : Sl α) = none := rfl
theorem so_cons {α : Type} (x : α) (l : List α) : so (x :: l) = some (x :: l) := rfl
theorem i64_lt {n : Int} (h : okI .i64 n) : -9223372036854775808 ≤ n ∧ n ≤ 9223372036854775807 := by
  simp only [okI, Lit.wf, IntKind.min, IntKind.max, IntKind.bits, IntKind.signed, Bool.and_eq_true, decide_eq_true_eq] at h
  simp at h
  omega
end Go.Proofs.Ytjbafmnocopofaa
end
section
/-
  Nfa: which programs are right, by the program and by the reference; which have back-references; the fault of a program.
-/


namespace Go.Proofs.Ytjbafmnocopofaa
open Go AW
set_option linter.unusedVariables false
set_option linter.unusedSimpArgs false
set_option maxHeartbeats 4000000
/-- Is an instruction right, but for its being the last one? -/
def fit (p : T34) (x : T52) : Bool :=
  if x.Kind = 1 then decide (({ Kind := x.Kind, Set := x.Set, To := 0, Group := 0, Last := 0, Slot := 0 } : T52) = x)
  else if x.Kind = 2 ∨ x.Kind = 3 then decide (({ Kind := x.Kind, Set := Arr.rep 4 0, To := x.To, Group := 0, Last := 0, Slot := 0 } : T52) = x) && decide (0 ≤ x.To ∧ x.To < ((ls p.Code).length : Int))
  else if x.Kind = 4 ∨ x.Kind = 5 ∨ x.Kind = 9 then decide (({ Kind := x.Kind, Set := Arr.rep 4 0, To := 0, Group := x.Group, Last := 0, Slot := 0 } : T52) = x) && decide (1 ≤ x.Group ∧ x.Group ≤ p.Groups)
  else if x.Kind = 6 then decide (({ Kind := x.Kind, Set := Arr.rep 4 0, To := 0, Group := x.Group, Last := x.Last, Slot := 0 } : T52) = x) && decide (1 ≤ x.Group ∧ x.Group ≤ p.Groups ∧ x.Group ≤ x.Last ∧ x.Last ≤ p.Groups)
  else if x.Kind = 7 ∨ x.Kind = 8 then decide (({ Kind := x.Kind, Set := Arr.rep 4 0, To := 0, Group := 0, Last := 0, Slot := x.Slot } : T52) = x) && decide (0 ≤ x.Slot ∧ x.Slot < p.Slots)
  else if x.Kind = 10 ∨ x.Kind = 11 ∨ x.Kind = 12 then decide (({ Kind := x.Kind, Set := Arr.rep 4 0, To := 0, Group := 0, Last := 0, Slot := 0 } : T52) = x)
  else false
def fits (p : T34) : Nat → List T52 → Bool
  | _, [] => true
  | i, x :: l => (fit p x && ((x.Kind == 12) == decide (i + 1 = (ls p.Code).length))) && fits p (i + 1) l
/-- Is a program right? -/
def rp (p : T34) : Bool := decide (0 ≤ p.Groups ∧ p.Groups ≤ 99 ∧ 0 ≤ p.Slots ∧ p.Slots ≤ 16384 ∧ 1 ≤ (ls p.Code).length ∧ (ls p.Code).length ≤ 16384) && fits p 0 (ls p.Code)
theorem kinds (k : Int) : k = 1 ∨ k = 2 ∨ k = 3 ∨ k = 4 ∨ k = 5 ∨ k = 6 ∨ k = 7 ∨ k = 8 ∨ k = 9 ∨ k = 10 ∨ k = 11 ∨ k = 12 ∨ (k ≠ 1 ∧ k ≠ 2 ∧ k ≠ 3 ∧ k ≠ 4 ∧ k ≠ 5 ∧ k ≠ 6 ∧ k ≠ 7 ∧ k ≠ 8 ∧ k ≠ 9 ∧ k ≠ 10 ∧ k ≠ 11 ∧ k ≠ 12) := by omega
theorem bite {α : Type} (c : Bool) (x y : α) : (if (!c) = true then x else y) = if c = true then y else x := by cases c <;> rfl
theorem g11_2 (p : T34) (n i : Int) (ok : Bool) (t : Sl T52) (a b : Int) (x y : T52) : G11 (.p2 p n i ok t a b x y) = if (ok && decide (y = x) && ((x.Kind == 12) == (i == IntKind.wrap .i64 (n - 1)))) = true then G11 (.p1 p n t a (IntKind.wrap .i64 (b + 1))) else some false := by
  rw [G11.eq_2, bite, bite, bite]
  cases ok <;> cases decide (y = x) <;> cases ((x.Kind == 12) == (i == IntKind.wrap .i64 (n - 1))) <;> rfl
theorem dec_beq (i n : Nat) : ((i : Int) == (n : Int)) = decide (i = n) := by
  rw [Bool.eq_iff_iff, beq_iff_eq, decide_eq_true_eq]; omega
theorem g11_3 (p : T34) (n i : Int) (t : Sl T52) (a b : Int) (x y : T52) : G11 (.p3 p n i t a b x y) = G11 (.p2 p n i (decide (0 ≤ x.To ∧ x.To < n)) t a b x { y with To := x.To }) := by
  rw [G11.eq_3]
  by_cases h : 0 ≤ x.To
  · rw [dti h]; simp [h]
  · rw [dfi h]; simp [h]
theorem g11_4 (p : T34) (n i : Int) (t : Sl T52) (a b : Int) (x y : T52) : G11 (.p4 p n i t a b x y) = G11 (.p2 p n i (decide (1 ≤ x.Group ∧ x.Group ≤ p.Groups)) t a b x { y with Group := x.Group }) := by
  rw [G11.eq_4]
  by_cases h : 1 ≤ x.Group
  · rw [dti h]; simp [h]
  · rw [dfi h]; simp [h]
theorem g11_5 (p : T34) (n i : Int) (t : Sl T52) (a b : Int) (x y : T52) : G11 (.p5 p n i t a b x y) = G11 (.p2 p n i (decide (0 ≤ x.Slot ∧ x.Slot < p.Slots)) t a b x { y with Slot := x.Slot }) := by
  rw [G11.eq_5]
  by_cases h : 0 ≤ x.Slot
  · rw [dti h]; simp [h]
  · rw [dfi h]; simp [h]
theorem and3 {α : Type} {a b c : Bool} {x y : α} : (if (a && b && c) = true then x else y) = if (b && a && c) = true then x else y := by rw [Bool.and_comm a b]
theorem g11_1 (p : T34) (n : Nat) (hn : n < 100000) (hn1 : n = (ls p.Code).length) (i : Nat) (hi : i < n) (x : T52) (hx : (ls p.Code)[i]? = some x) :
    G11 (.p1 p (n : Int) p.Code (n : Int) (i : Int)) = if (fit p x && ((x.Kind == 12) == decide (i + 1 = n))) = true then G11 (.p1 p (n : Int) p.Code (n : Int) ((i + 1 : Nat) : Int)) else some false := by
  have e : ((i : Int) == IntKind.wrap .i64 ((n : Int) - 1)) = decide (i + 1 = n) := by
    rw [wi _ (by omega) (by omega), Bool.eq_iff_iff, beq_iff_eq, decide_eq_true_eq]; omega
  rw [G11.eq_1, dti (by omega), ixs hx, sm, ← wn1 i (by omega), ← e]
  subst hn1
  unfold fit
  simp only [g11_3, g11_4, g11_5, g11_2]
  rcases kinds x.Kind with h | h | h | h | h | h | h | h | h | h | h | h | h
  case inr.inr.inr.inr.inr.inl =>
    simp (config := {decide := true}) only [h, if_true, if_false, Bool.true_and, true_or, or_true, or_false, false_or]
    by_cases h1 : 1 ≤ x.Group
    · by_cases h2 : x.Group ≤ p.Groups
      · by_cases h3 : x.Group ≤ x.Last
        · rw [dti h1, dti h2, dti h3]; simp [h1, h2, h3, Bool.and_comm, Bool.and_assoc, Bool.and_left_comm]
        · rw [dti h1, dti h2, dfi h3]; simp [h1, h2, h3]
      · rw [dti h1, dfi h2]; simp [h1, h2]
    · rw [dfi h1]; simp [h1]
  all_goals first
    | (simp (config := {decide := true}) only [h, if_true, if_false, Bool.true_and, true_or, or_true, or_false, false_or]; done)
    | (simp (config := {decide := true}) only [h, if_true, if_false, Bool.true_and, true_or, or_true, or_false, false_or]; rw [and3]; done)
    | (obtain ⟨a1, a2, a3, a4, a5, a6, a7, a8, a9, b1, b2, b3⟩ := h
       have e1 : ∀ k : Int, x.Kind ≠ k → (x.Kind == k) = false := fun k h => by simpa using h
       simp (config := {decide := true}) only [e1 _ a1, e1 _ a2, e1 _ a3, e1 _ a4, e1 _ a5, e1 _ a6, e1 _ a7, e1 _ a8, e1 _ a9, e1 _ b1, e1 _ b2, e1 _ b3, a1, a2, a3, a4, a5, a6, a7, a8, a9, b1, b2, b3, if_false, or_self, Bool.false_and, Bool.false_eq_true])
    | skip
theorem g11 (p : T34) (hn : (ls p.Code).length < 100000) : ∀ (k i : Nat), i + k = (ls p.Code).length → G11 (.p1 p ((ls p.Code).length : Int) p.Code ((ls p.Code).length : Int) (i : Int)) = some (fits p i ((ls p.Code).drop i))
  | 0, i, h => by
    rw [G11.eq_1, dfi (by omega), List.drop_of_length_le (by omega)]; rfl
  | k + 1, i, h => by
    obtain ⟨x, hx⟩ := get_ex (ls p.Code) (i := i) (by omega)
    rw [g11_1 p _ hn rfl i (by omega) x hx, g11 p hn k (i + 1) (by omega), drop_cons hx, fits]
    cases fit p x && ((x.Kind == 12) == decide (i + 1 = (ls p.Code).length)) <;> rfl
theorem f11 (p : T34) : F11 p = some (rp p) := by
  unfold F11 rp
  by_cases h1 : p.Groups < 0
  · rw [dti h1, decide_eq_false (by omega)]; rfl
  rw [dfi h1]
  by_cases h2 : p.Groups > 99
  · rw [dti h2, decide_eq_false (by omega)]; rfl
  rw [dfi h2]
  by_cases h3 : p.Slots < 0
  · rw [dti h3, decide_eq_false (by omega)]; rfl
  rw [dfi h3]
  by_cases h4 : p.Slots > 16384
  · rw [dti h4, decide_eq_false (by omega)]; rfl
  rw [dfi h4]
  by_cases h5 : ((ls p.Code).length : Int) < 1
  · rw [dti h5, decide_eq_false (by omega)]; rfl
  rw [dfi h5]
  by_cases h6 : ((ls p.Code).length : Int) > 16384
  · rw [dti h6, decide_eq_false (by omega)]; rfl
  rw [dfi h6, decide_eq_true (by omega)]
  have := g11 p (by omega) (ls p.Code).length 0 (by omega)
  simpa using this
/-- Has it a back-reference? -/
def hb (l : List T52) : Bool := l.any fun x => x.Kind == 9
theorem g60 (s : Sl T52) (hn : (ls s).length < 100000) : ∀ (k i : Nat), i + k = (ls s).length → ∃ r : Int, G60 (.p1 s ((ls s).length : Int) (i : Int)) = some r ∧ decide (r ≥ 0) = hb ((ls s).drop i)
  | 0, i, h => by
    rw [G60.eq_1, dfi (by omega), List.drop_of_length_le (by omega)]; exact ⟨_, rfl, rfl⟩
  | k + 1, i, h => by
    obtain ⟨x, hx⟩ := get_ex (ls s) (i := i) (by omega)
    obtain ⟨r, h1, h2⟩ := g60 s hn k (i + 1) (by omega)
    rw [G60.eq_1, dti (by omega), ixs hx, sm, F56, sm, drop_cons hx]
    by_cases e : x.Kind = 9
    · rw [if_pos (by simp [e])]
      exact ⟨_, rfl, by simp [hb, e]⟩
    · rw [if_neg (by simp [e]), wn1 i (by omega), h1]
      exact ⟨_, rfl, by rw [h2]; simp [hb, e]⟩
theorem f42 (p : T34) (hn : (ls p.Code).length < 100000) : F42 p = some (hb (ls p.Code)) := by
  unfold F42 F55 F60
  obtain ⟨r, h1, h2⟩ := g60 p.Code hn (ls p.Code).length 0 (by omega)
  have h1' : G60 (.p1 p.Code ((ls p.Code).length : Int) 0) = some r := h1
  rw [h1', sm, sm, h2]; rfl
theorem rp_len {p : T34} (h : rp p = true) : 1 ≤ (ls p.Code).length ∧ (ls p.Code).length ≤ 16384 := by
  simp only [rp, Bool.and_eq_true, decide_eq_true_eq] at h
  exact ⟨h.1.2.2.2.2.1, h.1.2.2.2.2.2⟩
/-- The fault of a program. -/
def flt (p : T34) : Int := if rp p = true then (if hb (ls p.Code) = true then 101 else 0) else 100
theorem f32 (p : T34) : F32 p = some (flt p) := by
  unfold F32 flt
  rw [f11, sm, bite]
  by_cases h : rp p = true
  · have := rp_len h
    rw [if_pos h, if_pos h, f42 p (by omega), sm]
    cases hb (ls p.Code) <;> rfl
  · rw [if_neg h, if_neg h]
/-- What is known of a right program's instructions. -/
theorem fits_at (p : T34) : ∀ (l : List T52) (k i : Nat) (x : T52), fits p k l = true → l[i]? = some x → fit p x = true ∧ (x.Kind = 12 ↔ k + i + 1 = (ls p.Code).length)
  | [], k, i, x, _, h => by simp at h
  | y :: l, k, 0, x, hf, h => by
    simp at h
    subst h
    simp only [fits, Bool.and_eq_true, beq_iff_eq] at hf
    refine ⟨hf.1.1, ?_⟩
    have := hf.1.2
    rw [Bool.eq_iff_iff, decide_eq_true_eq, beq_iff_eq] at this
    simpa using this
  | y :: l, k, i + 1, x, hf, h => by
    simp only [fits, Bool.and_eq_true] at hf
    have := fits_at p l (k + 1) i x hf.2 (by simpa using h)
    rw [show k + (i + 1) + 1 = k + 1 + i + 1 by omega]
    exact this
theorem rp_at {p : T34} (h : rp p = true) {i : Nat} {x : T52} (hx : (ls p.Code)[i]? = some x) : fit p x = true ∧ (x.Kind = 12 ↔ i + 1 = (ls p.Code).length) := by
  simp only [rp, Bool.and_eq_true] at h
  have := fits_at p _ 0 i x h.2 hx
  simpa using this
end Go.Proofs.Ytjbafmnocopofaa
end
section
/-
  Nfa: which instructions a run comes to without a further byte.
-/

namespace Go.Proofs.Ytjbafmnocopofaa
open Go AW
set_option linter.unusedVariables false
set_option linter.unusedSimpArgs false
set_option maxHeartbeats 4000000
theorem nat_of {z : Int} (h : 0 ≤ z) : ∃ n : Nat, z = n := ⟨z.toNat, by omega⟩
theorem nodup_len : ∀ (N : Nat) (L : List Nat), L.Nodup → (∀ x ∈ L, x < N) → L.length ≤ N
  | 0, L, _, h => by
    cases L with
    | nil => simp
    | cons a l => exact absurd (h a (by simp)) (by omega)
  | N + 1, L, hn, h => by
    by_cases hm : N ∈ L
    · have h1 := nodup_len N (L.erase N) (hn.erase N) (fun x hx => by
        have := (List.Nodup.mem_erase_iff hn).1 hx
        have := h x this.2
        omega)
      have := List.length_erase_of_mem hm
      omega
    · have := nodup_len N L hn (fun x hx => by
        have := h x hx
        have : x ≠ N := fun e => hm (e ▸ hx)
        omega)
      omega
/-- An instruction added to those that are known. -/
def addN (L : List Nat) (i : Nat) : List Nat := if i ∈ L then L else L ++ [i]
theorem mem_addN (L : List Nat) (i j : Nat) : j ∈ addN L i ↔ j ∈ L ∨ j = i := by
  unfold addN
  split
  · constructor
    · exact .inl
    · rintro (h | rfl) <;> assumption
  · simp
theorem addN_pre (L : List Nat) (i : Nat) : L <+: addN L i := by
  unfold addN
  split
  · exact List.prefix_refl _
  · exact List.prefix_append _ _
theorem addsN_pre (l : List Nat) : ∀ L : List Nat, L <+: l.foldl addN L := by
  induction l with
  | nil => exact fun L => List.prefix_refl _
  | cons a l ih => exact fun L => (addN_pre L a).trans (ih _)
theorem mem_addsN (l : List Nat) : ∀ (L : List Nat) (j : Nat), j ∈ l.foldl addN L ↔ j ∈ L ∨ j ∈ l := by
  induction l with
  | nil => simp
  | cons a l ih => intro L j; simp only [List.foldl_cons, ih, mem_addN, List.mem_cons, or_assoc]
def ints (L : List Nat) : List Int := L.map fun (n : Nat) => (n : Int)
/-- Known instructions and their marks. -/
structure Mk (N : Nat) (s : T92) (L : List Nat) : Prop where
  len : ∃ b, s.in_ = some b ∧ b.length = N ∧ ∀ j, j < N → b[j]? = some (decide (j ∈ L))
  lst : s.list = so (ints L)
  nd : L.Nodup
  lt : ∀ j ∈ L, j < N
theorem f58 {N : Nat} {s : T92} {L : List Nat} (hN : N ≤ 20000) (h : Mk N s L) (i : Nat) (hi : i < N) : ∃ b s', F58 s (i : Int) = some (b, s') ∧ Mk N s' (addN L i) := by
  obtain ⟨⟨b, e, hl, hb⟩, hs, hn, hlt⟩ := h
  have hix : ix (ls s.in_) (i : Int) = some (decide (i ∈ L)) := by rw [e]; exact ixs (hb i hi)
  unfold F58 addN
  rw [hix, sm]
  by_cases hm : i ∈ L
  · rw [dti hm, if_pos hm]
    exact ⟨_, _, rfl, ⟨b, e, hl, hb⟩, hs, hn, hlt⟩
  · have hL := nodup_len N L hn hlt
    rw [dfi hm, sm, if_neg hm, hs, ls_so, if_pos (by simp [ints, ls]; omega)]
    refine ⟨_, _, rfl, ⟨b.set i true, by simp [e, vset], by simp [hl], fun j hj => ?_⟩, ?_, ?_, ?_⟩
    · rw [List.getElem?_set]
      by_cases hij : i = j
      · subst hij; simp [hl, hj]
      · have h2 : decide (j ∈ L) = decide (j ∈ L ++ [i]) := by
          congr 1; apply propext; simp; intro h; exact absurd h.symm hij
        rw [if_neg hij, hb j hj, h2]
    · show sapp (so (ints L)) _ = _
      rw [sapp_so]
      simp [ints, ls]
    · rw [List.nodup_append]
      exact ⟨hn, by simp, by simp; rintro a ha rfl; exact hm ha⟩
    · intro j hj
      rcases List.mem_append.1 hj with h | h
      · exact hlt j h
      · simp at h; omega
/-- To which instructions one goes on without a byte. -/
def eps (C : List T52) (len q i : Nat) : List Nat :=
  match C[i]? with
  | none => []
  | some x =>
    if x.Kind = 1 then [] else if x.Kind = 12 then [] else if x.Kind = 2 then [i + 1, x.To.toNat] else if x.Kind = 3 then [x.To.toNat]
    else if x.Kind = 10 then (if q = 0 then [i + 1] else []) else if x.Kind = 11 then (if q = len then [i + 1] else []) else [i + 1]
theorem fit_to {p : T34} {x : T52} (h : fit p x = true) (hk : x.Kind = 2 ∨ x.Kind = 3) : 0 ≤ x.To ∧ x.To < ((ls p.Code).length : Int) := by
  unfold fit at h
  have h1 : x.Kind ≠ 1 := by omega
  simp only [h1, if_false, hk, if_true, Bool.and_eq_true, decide_eq_true_eq] at h
  exact h.2
theorem eps_lt {p : T34} (hr : rp p = true) {len q i j : Nat} (h : j ∈ eps (ls p.Code) len q i) : j < (ls p.Code).length := by
  unfold eps at h
  split at h
  · simp at h
  · rename_i x hx
    obtain ⟨hf, hl⟩ := rp_at hr hx
    have hi := ge_lt hx
    have hne : x.Kind ≠ 12 → i + 1 < (ls p.Code).length := fun h => by
      have : i + 1 ≠ (ls p.Code).length := fun e => h (hl.2 e)
      omega
    split at h
    · simp at h
    split at h
    · simp at h
    rename_i h12
    have := hne h12
    split at h
    · rename_i h2
      have := fit_to hf (.inl h2)
      simp at h
      omega
    split at h
    · rename_i h3
      have := fit_to hf (.inr h3)
      simp at h
      omega
    split at h
    · split at h <;> simp at h; omega
    split at h
    · split at h <;> simp at h; omega
    · simp at h; omega
variable {σ : Type}
theorem g57_step {p : T34} (hr : rp p = true) {Y : Int → σ → Option (Bool × σ)} {q : Nat} {text : Str} {s : T92} {L : List Nat} (hm : Mk (ls p.Code).length s L) {k i : Nat} (hk : L[k]? = some i) {z z' : σ} (hY : Y (i : Int) z = some (true, z')) :
    ∃ s', G57 Y (.p2 p (q : Int) text (k : Int) z s) = G57 Y (.p2 p (q : Int) text ((k + 1 : Nat) : Int) z' s') ∧ Mk (ls p.Code).length s' ((eps (ls p.Code) text.length q i).foldl addN L) := by
  have hlen := rp_len hr
  have hL := nodup_len _ L hm.nd hm.lt
  have hkl := ge_lt hk
  have hi := hm.lt i (List.mem_of_getElem? hk)
  obtain ⟨x, hx⟩ := get_ex (ls p.Code) hi
  have hix : ix (ls s.list) (k : Int) = some (i : Int) := by rw [hm.lst, ls_so]; exact ixs (by simp [ints, hk])
  have e1 : ∀ s' : T92, G57 Y (.p2 p (q : Int) text (IntKind.wrap .i64 ((k : Int) + 1)) z' s') = G57 Y (.p2 p (q : Int) text ((k + 1 : Nat) : Int) z' s') := fun s' => by rw [wn1 k (by omega)]
  have e2 : IntKind.wrap .i64 ((i : Int) + 1) = ((i + 1 : Nat) : Int) := wn1 i (by omega)
  have he := fun j => @eps_lt p hr text.length q i j
  rw [G57.eq_2, dti (by rw [hm.lst, ls_so]; simp [ints]; omega), hix, sm, hY, sm, if_neg (by simp), ixs hx, sm]
  simp only [e1, e2]
  unfold eps at he ⊢
  simp only [hx] at he ⊢
  by_cases h1 : x.Kind = 1
  · rw [eti h1, if_pos h1]; exact ⟨s, rfl, hm⟩
  rw [efi h1, if_neg h1]
  rw [if_neg h1] at he
  by_cases h12 : x.Kind = 12
  · rw [eti h12, if_pos h12]; exact ⟨s, rfl, hm⟩
  rw [efi h12, if_neg h12]
  rw [if_neg h12] at he
  by_cases h2 : x.Kind = 2
  · rw [eti h2, if_pos h2]
    rw [if_pos h2] at he
    obtain ⟨b1, s1, f1, m1⟩ := f58 (by omega) hm (i + 1) (he _ (by simp))
    obtain ⟨t, ht⟩ := nat_of (fit_to (rp_at hr hx).1 (.inl h2)).1
    obtain ⟨b2, s2, f2, m2⟩ := f58 (by omega) m1 t (he _ (by simp [ht]))
    rw [f1, sm, ht, f2, sm]
    exact ⟨s2, rfl, by simpa [ht] using m2⟩
  rw [efi h2, if_neg h2]
  rw [if_neg h2] at he
  by_cases h3 : x.Kind = 3
  · rw [eti h3, if_pos h3]
    rw [if_pos h3] at he
    obtain ⟨t, ht⟩ := nat_of (fit_to (rp_at hr hx).1 (.inr h3)).1
    obtain ⟨b2, s2, f2, m2⟩ := f58 (by omega) hm t (he _ (by simp [ht]))
    rw [ht, f2, sm]
    exact ⟨s2, rfl, by simpa [ht] using m2⟩
  rw [efi h3, if_neg h3]
  rw [if_neg h3] at he
  by_cases h10 : x.Kind = 10
  · rw [eti h10, if_pos h10]
    rw [if_pos h10] at he
    by_cases hq : q = 0
    · rw [if_pos hq] at he ⊢
      obtain ⟨b1, s1, f1, m1⟩ := f58 (by omega) hm (i + 1) (he _ (by simp))
      rw [eti (by omega), f1, sm]
      exact ⟨s1, rfl, m1⟩
    · rw [if_neg hq, efi (by omega)]; exact ⟨s, rfl, hm⟩
  rw [efi h10, if_neg h10]
  rw [if_neg h10] at he
  by_cases h11 : x.Kind = 11
  · rw [eti h11, if_pos h11]
    rw [if_pos h11] at he
    by_cases hq : q = text.length
    · rw [if_pos hq] at he ⊢
      obtain ⟨b1, s1, f1, m1⟩ := f58 (by omega) hm (i + 1) (he _ (by simp))
      rw [eti (by omega), f1, sm]
      exact ⟨s1, rfl, m1⟩
    · rw [if_neg hq, efi (by omega)]; exact ⟨s, rfl, hm⟩
  rw [efi h11, if_neg h11]
  rw [if_neg h11] at he
  obtain ⟨b1, s1, f1, m1⟩ := f58 (by omega) hm (i + 1) (he _ (by simp))
  rw [f1, sm]
  exact ⟨s1, rfl, m1⟩
/-- What is reached from some instructions. -/
inductive Rch (C : List T52) (len q : Nat) (B : Nat → Prop) : Nat → Prop
  | base {j : Nat} : B j → Rch C len q B j
  | step {i j : Nat} : Rch C len q B i → j ∈ eps C len q i → Rch C len q B j
theorem g57_2 {p : T34} (hr : rp p = true) {Y : Int → σ → Option (Bool × σ)} {y : Nat → σ → σ} {P : Nat → σ → Prop} (hY : ∀ k i z, k < (ls p.Code).length → i < (ls p.Code).length → P k z → Y (i : Int) z = some (true, y i z) ∧ P (k + 1) (y i z)) {q : Nat} {text : Str} {B : Nat → Prop} :
    ∀ (m k : Nat) (L : List Nat) (s : T92) (z : σ), m + k = (ls p.Code).length → Mk (ls p.Code).length s L → k ≤ L.length → P k z → (∀ j ∈ L, Rch (ls p.Code) text.length q B j) → (∀ j, B j → j ∈ L) → (∀ t i, t < k → L[t]? = some i → ∀ j ∈ eps (ls p.Code) text.length q i, j ∈ L) →
    ∃ Lf, L <+: Lf ∧ Lf.Nodup ∧ (∀ j, j ∈ Lf ↔ Rch (ls p.Code) text.length q B j) ∧ G57 Y (.p2 p (q : Int) text (k : Int) z s) = some ((Lf.drop k).foldl (fun z i => y i z) z) ∧ P Lf.length ((Lf.drop k).foldl (fun z i => y i z) z) := by
  have hlen := rp_len hr
  have done : ∀ (k : Nat) (L : List Nat) (s : T92) (z : σ), Mk (ls p.Code).length s L → k = L.length → P k z → (∀ j ∈ L, Rch (ls p.Code) text.length q B j) → (∀ j, B j → j ∈ L) → (∀ t i, t < k → L[t]? = some i → ∀ j ∈ eps (ls p.Code) text.length q i, j ∈ L) →
    ∃ Lf, L <+: Lf ∧ Lf.Nodup ∧ (∀ j, j ∈ Lf ↔ Rch (ls p.Code) text.length q B j) ∧ G57 Y (.p2 p (q : Int) text (k : Int) z s) = some ((Lf.drop k).foldl (fun z i => y i z) z) ∧ P Lf.length ((Lf.drop k).foldl (fun z i => y i z) z) := by
    intro k L s z hm hk hP h1 h2 h3
    refine ⟨L, List.prefix_refl _, hm.nd, fun j => ⟨h1 j, fun h => ?_⟩, ?_, ?_⟩
    · induction h with
      | base h => exact h2 _ h
      | step h e ih =>
        obtain ⟨t, ht⟩ := List.getElem?_of_mem ih
        exact h3 t _ (by have := ge_lt ht; omega) ht _ e
    · rw [G57.eq_2, dfi (by rw [hm.lst, ls_so]; simp [ints]; omega), List.drop_of_length_le (by omega)]; rfl
    · rw [List.drop_of_length_le (by omega)]; exact hk ▸ hP
  intro m
  induction m with
  | zero =>
    intro k L s z hmk hm hk hP h1 h2 h3
    have := nodup_len _ L hm.nd hm.lt
    exact done k L s z hm (by omega) hP h1 h2 h3
  | succ m ih =>
    intro k L s z hmk hm hk hP h1 h2 h3
    by_cases hkl : k = L.length
    · exact done k L s z hm hkl hP h1 h2 h3
    · obtain ⟨i, hi⟩ := get_ex L (i := k) (by omega)
      have hil := hm.lt i (List.mem_of_getElem? hi)
      have hLl := nodup_len _ L hm.nd hm.lt
      obtain ⟨y1, y2⟩ := hY k i z (by omega) hil hP
      obtain ⟨s', e, hm'⟩ := g57_step hr (q := q) (text := text) hm hi y1
      have hpre := addsN_pre (eps (ls p.Code) text.length q i) L
      have hll := hpre.length_le
      obtain ⟨Lf, l1, l2, l3, l4, l5⟩ := ih (k + 1) _ s' _ (by omega) hm' (by omega) y2
        (fun j hj => by
          rcases (mem_addsN _ _ _).1 hj with h | h
          · exact h1 j h
          · exact .step (h1 i (List.mem_of_getElem? hi)) h)
        (fun j hj => (mem_addsN _ _ _).2 (.inl (h2 j hj)))
        (fun t i' ht hti j hj => by
          rw [mem_addsN]
          have hL : L[t]? = some i' := by
            obtain ⟨r, hr⟩ := hpre
            rw [← hr, List.getElem?_append_left (by omega)] at hti
            exact hti
          by_cases htk : t = k
          · subst htk
            rw [hi] at hL; cases hL
            exact .inr hj
          · exact .inl (h3 t i' (by omega) hL j hj))
      have hf : Lf.drop k = i :: Lf.drop (k + 1) := by
        apply drop_cons
        obtain ⟨r, hr⟩ := hpre.trans l1
        rw [← hr, List.getElem?_append_left (by omega)]
        exact hi
      refine ⟨Lf, hpre.trans l1, l2, l3, ?_, ?_⟩
      · rw [e, l4, hf]; rfl
      · rw [hf]; exact l5
theorem g57_1 {p : T34} (hr : rp p = true) {Y : Int → σ → Option (Bool × σ)} {q : Nat} {text : Str} (A : List Nat) (hA : ∀ a ∈ A, a < (ls p.Code).length) (hAl : A.length ≤ 100000000) (z : σ) :
    ∀ (m t : Nat) (L : List Nat) (s : T92), m + t = A.length → Mk (ls p.Code).length s L → (∀ j, j ∈ L ↔ j ∈ A.take t) →
    ∃ s' L', Mk (ls p.Code).length s' L' ∧ (∀ j, j ∈ L' ↔ j ∈ A) ∧ G57 Y (.p1 p (q : Int) text (so (ints A)) (A.length : Int) (t : Int) z s) = G57 Y (.p2 p (q : Int) text 0 z s')
  | 0, t, L, s, h, hm, hj => by
    rw [G57.eq_1, dfi (by omega)]
    exact ⟨s, L, hm, fun j => by rw [hj, List.take_of_length_le (by omega)], rfl⟩
  | m + 1, t, L, s, h, hm, hj => by
    have hlen := rp_len hr
    obtain ⟨a, ha⟩ := get_ex A (i := t) (by omega)
    obtain ⟨b, s1, f1, m1⟩ := f58 (by omega) hm a (hA a (List.mem_of_getElem? ha))
    rw [G57.eq_1, dti (by omega), ls_so, ixs (c := (a : Int)) (by simp [ints, ha]), sm, f1, sm, wn1 t (by omega)]
    exact g57_1 hr A hA hAl z m (t + 1) _ s1 (by omega) m1 fun j => by rw [mem_addN, hj, take_snoc ha]; simp
theorem f57 {p : T34} (hr : rp p = true) {Y : Int → σ → Option (Bool × σ)} {y : Nat → σ → σ} {P : Nat → σ → Prop} (hY : ∀ k i z, k < (ls p.Code).length → i < (ls p.Code).length → P k z → Y (i : Int) z = some (true, y i z) ∧ P (k + 1) (y i z)) (q : Nat) (text : Str) (A : List Nat) (hA : ∀ a ∈ A, a < (ls p.Code).length) (hAl : A.length ≤ 100000000) (z : σ) (hP : P 0 z) :
    ∃ Lf : List Nat, Lf.Nodup ∧ (∀ j, j ∈ Lf ↔ Rch (ls p.Code) text.length q (· ∈ A) j) ∧ F57 Y p (so (ints A)) (q : Int) text z = some (Lf.foldl (fun z i => y i z) z) ∧ P Lf.length (Lf.foldl (fun z i => y i z) z) := by
  have hlen := rp_len hr
  unfold F57
  rw [if_pos (by omega)]
  have hm : Mk (ls p.Code).length { in_ := some (List.replicate (Int.toNat ((ls p.Code).length : Int)) false), list := none } [] := by
    refine ⟨⟨_, rfl, by simp, fun j hj => by simp [List.getElem?_replicate, hj]⟩, rfl, by simp, by simp⟩
  obtain ⟨s', L', m', h1, h2⟩ := g57_1 hr (Y := Y) (q := q) (text := text) A hA hAl z A.length 0 [] _ (by omega) hm (by simp)
  have h2' : G57 Y (.p1 p (q : Int) text (so (ints A)) ((ls (so (ints A))).length : Int) 0 z { in_ := some (List.replicate (Int.toNat ((ls p.Code).length : Int)) false), list := none }) = G57 Y (.p2 p (q : Int) text 0 z s') := by
    rw [ls_so, show (ints A).length = A.length by simp [ints]]; exact h2
  rw [h2']
  obtain ⟨Lf, l1, l2, l3, l4, l5⟩ := g57_2 hr hY (q := q) (text := text) (B := (· ∈ A)) (ls p.Code).length 0 L' s' z (by omega) m' (by omega) hP (fun j hj => .base ((h1 j).1 hj)) (fun j hj => (h1 j).2 hj) (fun t i ht => by omega)
  exact ⟨Lf, l2, l3, by simpa using l4, by simpa using l5⟩
end Go.Proofs.Ytjbafmnocopofaa
end
section
/-
  Nfa: where a match that begins at a place may end.
-/

namespace Go.Proofs.Ytjbafmnocopofaa
open Go AW
set_option linter.unusedVariables false
set_option linter.unusedSimpArgs false
set_option maxHeartbeats 4000000
theorem div64 : ∀ n : Fin 256, IntKind.wrap .u8 (Int.tdiv (n.val : Int) 64) = ((n.val / 64 : Nat) : Int) ∧ Int.tmod (n.val : Int) 64 = ((n.val % 64 : Nat) : Int) := by decide +kernel
/-- Is a byte in a set? -/
def hasB (s : Arr 4 Int) (b : UInt8) : Bool := andI .u64 (shrI .u64 (s.l.getD (b.toNat / 64) 0) ((b.toNat % 64 : Nat) : Int)) 1 == 1
theorem f44 (s : Arr 4 Int) (b : UInt8) : F44 s (b.toNat : Int) = some (hasB s b) := by
  have hb : b.toNat < 256 := b.toNat_lt
  obtain ⟨h1, h2⟩ := div64 ⟨b.toNat, hb⟩
  simp only at h1 h2
  have hl := s.h
  obtain ⟨v, hv⟩ := get_ex s.l (i := b.toNat / 64) (by omega)
  unfold F44 hasB
  rw [h1, h2, if_pos (by omega), ixs hv, sm, if_pos (by omega)]
  simp [List.getD, hv]
/-- Where a run may stand: at a place, at an instruction. -/
inductive Cf (C : List T52) (s : Str) (fr : Nat) : Nat → Nat → Prop
  | start : Cf C s fr fr 0
  | eps {q i j : Nat} : Cf C s fr q i → j ∈ eps C s.length q i → Cf C s fr q j
  | chr {q i : Nat} {x : T52} {b : UInt8} : Cf C s fr q i → C[i]? = some x → x.Kind = 1 → s[q]? = some b → hasB x.Set b = true → Cf C s fr (q + 1) (i + 1)
def Base (C : List T52) (s : Str) (fr q j : Nat) : Prop := (q = fr ∧ j = 0) ∨ ∃ q' i x b, q = q' + 1 ∧ j = i + 1 ∧ Cf C s fr q' i ∧ C[i]? = some x ∧ x.Kind = 1 ∧ s[q']? = some b ∧ hasB x.Set b = true
theorem cf_rch {C : List T52} {s : Str} {fr q j : Nat} : Cf C s fr q j ↔ Rch C s.length q (Base C s fr q) j := by
  constructor
  · intro h
    induction h with
    | start => exact .base (.inl ⟨rfl, rfl⟩)
    | eps _ e ih => exact .step ih e
    | chr h h1 h2 h3 h4 _ => exact .base (.inr ⟨_, _, _, _, rfl, rfl, h, h1, h2, h3, h4⟩)
  · intro h
    induction h with
    | base h =>
      rcases h with ⟨rfl, rfl⟩ | ⟨q', i, x, b, rfl, rfl, h, h1, h2, h3, h4⟩
      · exact .start
      · exact .chr h h1 h2 h3 h4
    | step _ e ih => exact .eps ih e
open Classical in
/-- May a match end there? -/
noncomputable def acc (C : List T52) (s : Str) (fr q : Nat) : Bool := decide (Cf C s fr q (C.length - 1))
noncomputable def endsF (C : List T52) (s : Str) (fr q : Nat) : List Int := ((List.range' q (s.length + 1 - q)).filter (acc C s fr)).map fun (n : Nat) => (n : Int)
theorem filter_one : ∀ {l : List Nat}, l.Nodup → ∀ a : Nat, l.filter (fun i => decide (i = a)) = if a ∈ l then [a] else []
  | [], _, a => by simp
  | x :: l, h, a => by
    rw [List.nodup_cons] at h
    have ih := filter_one h.2 a
    by_cases e : x = a
    · subst e
      rw [List.filter_cons_of_pos (by simp), ih, if_neg h.1, if_pos (by simp)]
    · rw [List.filter_cons_of_neg (by simp [e]), ih]
      have e' : a ≠ x := fun h => e h.symm
      simp [e']
def hit (C : List T52) (s : Str) (q i : Nat) : Bool := match C[i]?, s[q]? with
  | some x, some b => x.Kind == 1 && hasB x.Set b
  | _, _ => false
theorem hit_ne {C : List T52} {s : Str} {q i : Nat} {x : T52} (hx : C[i]? = some x) (h : x.Kind ≠ 1) : ¬ hit C s q i = true := by
  unfold hit
  have : (x.Kind == 1) = false := by simpa using h
  cases e : s[q]? <;> simp [hx, this]
theorem hit_no {C : List T52} {s : Str} {q i : Nat} (h : s.length ≤ q) : ¬ hit C s q i = true := by
  unfold hit
  have : s[q]? = none := by simp; omega
  cases e : C[i]? <;> simp [this]
theorem hit_is {C : List T52} {s : Str} {q i : Nat} {x : T52} {b : UInt8} (hx : C[i]? = some x) (h : x.Kind = 1) (hb : s[q]? = some b) : hit C s q i = hasB x.Set b := by
  simp [hit, hx, hb, h]
abbrev Zz := (Sl Int) × Int × (Sl Int) × Nat
def yst (N : Nat) (C : List T52) (s : Str) (q i : Nat) (z : Zz) : Zz :=
  (if i + 1 = N then sapp z.1 [(q : Int)] else z.1, z.2.1, if hit C s q i = true then sapp z.2.2.1 [((i + 1 : Nat) : Int)] else z.2.2.1, z.2.2.2)
structure Pz (q base k : Nat) (z : Zz) : Prop where
  f : z.2.2.2 = 0
  p : z.2.1 = (q : Int)
  o : (ls z.1).length ≤ base + k
  n : (ls z.2.2.1).length ≤ k
theorem b33 {p : T34} (hr : rp p = true) {s : Str} (hs : s.length ≤ 1000000000) {q base k : Nat} (hb : base ≤ 1000000000) (hk : k < (ls p.Code).length) {z : Zz} (hP : Pz q base k z) {i : Nat} (hi : i < (ls p.Code).length) (t6 now : Sl Int) (t24 : T34) (a2 : Sl Int) (a3 : Int) (a4 : Str) :
    B33_1 p s t6 now t24 a2 a3 a4 (i : Int) z = some (true, yst (ls p.Code).length (ls p.Code) s q i z) ∧ Pz q base (k + 1) (yst (ls p.Code).length (ls p.Code) s q i z) := by
  have hlen := rp_len hr
  obtain ⟨z1, z2, z3, z4⟩ := z
  obtain ⟨h1, h2, h3, h4⟩ := hP
  simp only at h1 h2 h3 h4
  subst h1; subst h2
  obtain ⟨x, hx⟩ := get_ex (ls p.Code) hi
  obtain ⟨hf, h12⟩ := rp_at hr hx
  have pz : ∀ (o n : Sl Int), (ls o).length ≤ (ls z1).length + 1 → (ls n).length ≤ (ls z3).length + 1 → Pz q base (k + 1) (o, (q : Int), n, 0) := fun o n h h' => ⟨rfl, rfl, by show (ls o).length ≤ _; omega, by show (ls n).length ≤ _; omega⟩
  unfold B33_1 yst
  simp only
  rw [if_pos trivial, ixs hx, sm]
  by_cases e : x.Kind = 12
  · have hN := h12.1 e
    have hh := hit_ne (s := s) (q := q) hx (show x.Kind ≠ 1 by omega)
    rw [eti e, if_pos (by simp [ls]; unfold ls at h3; omega), if_pos hN, if_neg hh]
    exact ⟨rfl, pz _ _ (by rw [ls_sapp]; simp) (by omega)⟩
  · have hN : i + 1 ≠ (ls p.Code).length := fun h => e (h12.2 h)
    rw [efi e, if_neg hN]
    by_cases e1 : x.Kind = 1
    · rw [eti e1]
      by_cases hq : q < s.length
      · obtain ⟨b, hb'⟩ := get_ex s hq
        rw [dti (by omega), ixs hb', sm, f44, sm, hit_is hx e1 hb']
        by_cases hh : hasB x.Set b = true
        · rw [if_pos hh, if_pos hh, if_pos (by simp [ls]; unfold ls at h4; omega), wn1 i (by omega)]
          exact ⟨rfl, pz _ _ (by omega) (by rw [ls_sapp]; simp)⟩
        · rw [if_neg hh, if_neg hh]
          exact ⟨rfl, pz _ _ (by omega) (by omega)⟩
      · rw [dfi (by omega), if_neg (hit_no (by omega))]
        exact ⟨rfl, pz _ _ (by omega) (by omega)⟩
    · rw [efi e1, if_neg (hit_ne hx e1)]
      exact ⟨rfl, pz _ _ (by omega) (by omega)⟩
theorem yfold (N : Nat) (C : List T52) (s : Str) (q : Nat) : ∀ (l : List Nat) (O : List Int) (pl : Int) (H : List Nat) (f : Nat),
    l.foldl (fun z i => yst N C s q i z) (so O, pl, so (ints H), f) = (so (O ++ (l.filter fun i => decide (i + 1 = N)).map fun _ => (q : Int)), pl, so (ints (H ++ (l.filter (hit C s q)).map (· + 1))), f)
  | [], O, pl, H, f => by simp
  | i :: l, O, pl, H, f => by
    have e : yst N C s q i (so O, pl, so (ints H), f) = (so (O ++ ([i].filter fun i => decide (i + 1 = N)).map fun _ => (q : Int)), pl, so (ints (H ++ ([i].filter (hit C s q)).map (· + 1))), f) := by
      unfold yst
      simp only
      by_cases h1 : i + 1 = N
      · by_cases h2 : hit C s q i = true
        · rw [if_pos h1, if_pos h2, sapp_so, sapp_so]; simp [h1, h2, ints]
        · rw [if_pos h1, if_neg h2, sapp_so]; simp [h1, h2, ints]
      · by_cases h2 : hit C s q i = true
        · rw [if_neg h1, if_pos h2, sapp_so]; simp [h1, h2, ints]
        · rw [if_neg h1, if_neg h2]; simp [h1, h2, ints]
    rw [List.foldl_cons, e, yfold N C s q l, List.append_assoc, List.append_assoc, ← List.map_append, ← List.map_append, ← List.filter_append, ← List.filter_append, List.singleton_append]
theorem no_cf {C : List T52} {s : Str} {fr q : Nat} (hq : fr ≤ q) (h : ∀ j, ¬ Base C s fr q j) (hf : fr < q) : ∀ q', q ≤ q' → ∀ j, ¬ Cf C s fr q' j := by
  have key : ∀ q' j, Cf C s fr q' j → q ≤ q' → False := by
    intro q' j hc
    induction hc with
    | start => intro h; omega
    | eps _ _ ih => exact ih
    | @chr q0 i0 x0 b0 hc h1 h2 h3 h4 ih =>
      intro hle
      by_cases e : q = q0 + 1
      · exact h (i0 + 1) (.inr ⟨q0, i0, x0, b0, e, rfl, hc, h1, h2, h3, h4⟩)
      · exact ih (by omega)
  exact fun q' hle j hc => key q' j hc hle
theorem endsF_nil {C : List T52} {s : Str} {fr q : Nat} (h : ∀ q', q ≤ q' → ∀ j, ¬ Cf C s fr q' j) : endsF C s fr q = [] := by
  unfold endsF
  rw [List.filter_eq_nil_iff.2, List.map_nil]
  intro a ha
  rw [List.mem_range'_1] at ha
  simp [acc, h a ha.1]
theorem g33 {p : T34} (hr : rp p = true) {s : Str} (hs : s.length ≤ 100000000) {fr : Nat} (hfr : fr ≤ s.length) (t6 : Sl Int) : ∀ (m q : Nat) (A : List Nat) (out : List Int), m + q = s.length + 1 → fr ≤ q → (∀ j, j ∈ A ↔ Base (ls p.Code) s fr q j) → A.length ≤ 100000 → out.length ≤ q →
    G33 (.p1 p s t6 (so (ints A)) (so out) (q : Int)) = some (so (out ++ endsF (ls p.Code) s fr q)) := by
  have hlen := rp_len hr
  have stop : ∀ (q : Nat) (out : List Int), fr ≤ q → (∀ j, ¬ Base (ls p.Code) s fr q j) → fr < q → G33 (.p1 p s t6 (so (ints [])) (so out) (q : Int)) = some (so (out ++ endsF (ls p.Code) s fr q)) := by
    intro q out h1 h2 h3
    rw [endsF_nil (no_cf h1 h2 h3), G33.eq_1, dfi (by simp [ls_so, ints]), List.append_nil]
  intro m
  induction m with
  | zero =>
    intro q A out hm hq hA hAl ho
    have hB : ∀ j, ¬ Base (ls p.Code) s fr q j := by
      rintro j (⟨rfl, _⟩ | ⟨q', i, x, b, rfl, _, _, _, _, hb, _⟩)
      · omega
      · have := ge_lt hb; omega
    have : A = [] := List.eq_nil_iff_forall_not_mem.2 fun j hj => hB j ((hA j).1 hj)
    subst this
    exact stop q out hq hB (by omega)
  | succ m ih =>
    intro q A out hm hq hA hAl ho
    by_cases hn : A = []
    · subst hn
      have hB : ∀ j, ¬ Base (ls p.Code) s fr q j := fun j h => by simpa using (hA j).2 h
      have : fr ≠ q := fun e => hB 0 (.inl ⟨e.symm, rfl⟩)
      exact stop q out hq hB (by omega)
    · have hApos : 0 < A.length := List.length_pos_iff.2 hn
      have hBlt : ∀ j, Base (ls p.Code) s fr q j → j < (ls p.Code).length := by
        rintro j (⟨_, rfl⟩ | ⟨q', i, x, b, rfl, rfl, _, hx, hk, hb, _⟩)
        · omega
        · have := ge_lt hx
          have : i + 1 ≠ (ls p.Code).length := fun e => by have := (rp_at hr hx).2.2 e; omega
          omega
      rw [G33.eq_1, dti (by rw [ls_so]; simp [ints]; omega)]
      unfold F43
      rw [sm, G33.eq_2]
      simp only
      obtain ⟨Lf, l1, l2, l3, l4⟩ := f57 hr (Y := B33_1 p s t6 (so (ints A)) p (so (ints A)) (q : Int) s) (y := yst (ls p.Code).length (ls p.Code) s q) (P := Pz q out.length) (fun k i z hk hi hP => b33 hr (by omega) (by omega) hk hP hi _ _ _ _ _ _) q s A (fun a ha => hBlt a ((hA a).1 ha)) (by omega) (so out, (q : Int), none, 0) ⟨rfl, rfl, by simp [ls_so], by simp [ls]⟩
      rw [l3, sm]
      have yf := yfold (ls p.Code).length (ls p.Code) s q Lf out (q : Int) [] 0
      have yf' : Lf.foldl (fun z i => yst (ls p.Code).length (ls p.Code) s q i z) (so out, (q : Int), none, 0) = _ := yf
      rw [yf', if_pos rfl]
      simp only [List.nil_append]
      rw [wn1 q (by omega)]
      have hcf : ∀ j, j ∈ Lf ↔ Cf (ls p.Code) s fr q j := fun j => by
        rw [l2, cf_rch]
        have : (fun j => j ∈ A) = Base (ls p.Code) s fr q := by funext j; exact propext (hA j)
        rw [this]
      have hLl := nodup_len _ Lf l1 (fun j hj => by
        have := (l2 j).1 hj
        cases this with
        | base h => exact hBlt j ((hA j).1 h)
        | step _ e => exact eps_lt hr e)
      have hfo : (Lf.filter fun i => decide (i + 1 = (ls p.Code).length)) = if (ls p.Code).length - 1 ∈ Lf then [(ls p.Code).length - 1] else [] := by
        rw [← filter_one l1]
        congr 1
        funext i
        congr 1
        apply propext
        omega
      have hend : endsF (ls p.Code) s fr q = ((Lf.filter fun i => decide (i + 1 = (ls p.Code).length)).map fun _ => (q : Int)) ++ endsF (ls p.Code) s fr (q + 1) := by
        unfold endsF
        rw [hfo, show s.length + 1 - q = (s.length + 1 - (q + 1)) + 1 by omega, List.range'_succ]
        by_cases h : (ls p.Code).length - 1 ∈ Lf
        · rw [if_pos h, List.filter_cons_of_pos (by simp [acc, ← hcf, h])]; rfl
        · rw [if_neg h, List.filter_cons_of_neg (by simp [acc, ← hcf, h])]; rfl
      rw [ih (q + 1) _ _ (by omega) (by omega) ?_ ?_ ?_, hend, List.append_assoc]
      · intro j
        rw [List.mem_map]
        constructor
        · rintro ⟨i, hi, rfl⟩
          rw [List.mem_filter, hcf] at hi
          obtain ⟨hc, hh⟩ := hi
          unfold hit at hh
          split at hh
          · rename_i x b hx hb
            simp only [Bool.and_eq_true, beq_iff_eq] at hh
            exact .inr ⟨q, i, x, b, rfl, rfl, hc, hx, hh.1, hb, hh.2⟩
          · simp at hh
        · rintro (⟨h, _⟩ | ⟨q', i, x, b, h, rfl, hc, hx, hk, hb, hh⟩)
          · omega
          · obtain rfl : q = q' := by omega
            refine ⟨i, ?_, rfl⟩
            rw [List.mem_filter, hcf]
            exact ⟨hc, by simp [hit, hx, hb, hk, hh]⟩
      · have := List.length_filter_le (hit (ls p.Code) s q) Lf
        simp; omega
      · rw [hfo]; split <;> simp <;> omega
theorem f33 {p : T34} (hr : rp p = true) {s : Str} (hs : s.length ≤ 100000000) {fr : Nat} (hfr : fr ≤ s.length) : F33 p s (fr : Int) = some (so (endsF (ls p.Code) s fr fr)) := by
  unfold F33
  have := g33 hr hs hfr none (s.length + 1 - fr) fr [0] [] (by omega) (by omega) (fun j => ?_) (by simp) (by simp)
  · rw [List.nil_append] at this; exact this
  · constructor
    · intro h; simp at h; exact .inl ⟨rfl, h⟩
    · rintro (⟨_, rfl⟩ | ⟨q', i, x, b, h, rfl, hc, _⟩)
      · simp
      · exfalso
        have : ∀ q j, Cf (ls p.Code) s fr q j → fr ≤ q := by
          intro q j h
          induction h with
          | start => omega
          | eps _ _ ih => exact ih
          | chr _ _ _ _ _ ih => omega
        have := this _ _ hc
        omega
end Go.Proofs.Ytjbafmnocopofaa
end
section
/-
  Nfa: Ends, Whole and Match.
-/

namespace Go.Proofs.Ytjbafmnocopofaa
open Go AW
set_option linter.unusedVariables false
set_option linter.unusedSimpArgs false
set_option maxHeartbeats 4000000
theorem nne {a b : Int} (h : a = b) : ¬ a ≠ b := fun k => k h
/-- The ends of the matches that begin at a place. -/
noncomputable def EN (p : T34) (s : Str) (i : Nat) : List Nat := (List.range' i (s.length + 1 - i)).filter (acc (ls p.Code) s i)
theorem f33' {p : T34} (hr : rp p = true) {s : Str} (hs : s.length ≤ 100000000) {i : Nat} (hi : i ≤ s.length) : F33 p s (i : Int) = some (so (ints (EN p s i))) := f33 hr hs hi
theorem en_mem {p : T34} {s : Str} {i j : Nat} (h : j ∈ EN p s i) : i ≤ j ∧ j ≤ s.length := by
  unfold EN at h
  rw [List.mem_filter, List.mem_range'_1] at h
  omega
theorem en_sorted (p : T34) (s : Str) (i : Nat) : (EN p s i).Pairwise (· < ·) := List.Pairwise.filter _ List.pairwise_lt_range'
theorem en_lt {p : T34} {s : Str} {i k a b : Nat} (h1 : (EN p s i)[k]? = some a) (h2 : (EN p s i)[k + 1]? = some b) : a < b := by
  have h := en_sorted p s i
  rw [List.getElem?_eq_some_iff] at h1 h2
  obtain ⟨k1, rfl⟩ := h1
  obtain ⟨k2, rfl⟩ := h2
  exact (List.pairwise_iff_getElem.1 h) k (k + 1) k1 k2 (by omega)
theorem en_len (p : T34) (s : Str) (i : Nat) : (EN p s i).length ≤ s.length + 1 := by
  have := List.length_filter_le (acc (ls p.Code) s i) (List.range' i (s.length + 1 - i))
  unfold EN
  simp at this
  omega
theorem flt_0 {p : T34} (h : flt p = 0) : rp p = true ∧ hb (ls p.Code) = false := by
  unfold flt at h
  split at h
  · rename_i h1
    split at h
    · simp at h
    · rename_i h2; exact ⟨h1, by simpa using h2⟩
  · simp at h
theorem f17 (p : T34) {s : Str} (hs : s.length ≤ 100000000) (fr : Int) : F17 p s fr = some (if flt p ≠ 0 then (none, flt p) else if fr < 0 ∨ (s.length : Int) < fr then (none, 2) else (so (ints (EN p s fr.toNat)), 0)) := by
  unfold F17
  rw [f32, sm]
  by_cases h : flt p = 0
  · rw [nfi h, if_neg (nne h)]
    by_cases h1 : fr < 0
    · rw [dti h1, if_pos (.inl h1)]
    · rw [dfi h1]
      by_cases h2 : (s.length : Int) < fr
      · rw [dti h2, if_pos (.inr h2)]
      · obtain ⟨n, rfl⟩ := nat_of (by omega : 0 ≤ fr)
        rw [dfi h2, if_neg (by omega), f33' (flt_0 h).1 hs (by omega), sm]; rfl
  · rw [nti h, if_pos h]
theorem mem_ints {l : List Nat} {n : Nat} : (n : Int) ∈ ints l ↔ n ∈ l := by
  unfold ints
  rw [List.mem_map]
  constructor
  · rintro ⟨m, h, e⟩
    have : m = n := by omega
    exact this ▸ h
  · exact fun h => ⟨n, h, rfl⟩
theorem g21 (t : T56) (l : List Int) (hl : l.length ≤ 1000000000) : ∀ (m k : Nat), m + k = l.length → G21 (.p1 t (so l) (l.length : Int) (k : Int)) = some (decide (t.To ∈ l.drop k), 0)
  | 0, k, h => by
    rw [G21.eq_1, dfi (by omega), List.drop_of_length_le (by omega)]; rfl
  | m + 1, k, h => by
    obtain ⟨x, hx⟩ := get_ex l (i := k) (by omega)
    rw [G21.eq_1, dti (by omega), ls_so, ixs hx, sm, drop_cons hx]
    by_cases e : x = t.To
    · rw [eti e]; simp [e]
    · rw [efi e, wn1 k (by omega), g21 t l hl m (k + 1) (by omega)]
      have e' : ¬ t.To = x := fun h => e h.symm
      simp [e']
theorem f21 (p : T34) {s : Str} (hs : s.length ≤ 100000000) (t : T56) : F21 p s t = some (if flt p ≠ 0 then (false, flt p) else if t.From < 0 ∨ t.To < t.From ∨ (s.length : Int) < t.To then (false, 2) else (decide (t.To ∈ ints (EN p s t.From.toNat)), 0)) := by
  unfold F21
  rw [f32, sm]
  by_cases h : flt p = 0
  · rw [nfi h, if_neg (nne h)]
    by_cases h1 : t.From < 0
    · rw [dti h1, if_pos (.inl h1)]
    rw [dfi h1]
    by_cases h2 : t.To < t.From
    · rw [dti h2, if_pos (.inr (.inl h2))]
    rw [dfi h2]
    by_cases h3 : t.To > (s.length : Int)
    · rw [dti h3, if_pos (.inr (.inr h3))]
    rw [dfi h3, if_neg (by omega)]
    obtain ⟨n, hn⟩ := nat_of (by omega : 0 ≤ t.From)
    have hl := en_len p s n
    rw [hn, f33' (flt_0 h).1 hs (by omega), sm, ls_so]
    have := g21 t (ints (EN p s n)) (by simp [ints]; omega) (ints (EN p s n)).length 0 (by omega)
    have this' : G21 (.p1 t (so (ints (EN p s n))) ((ints (EN p s n)).length : Int) 0) = some (decide (t.To ∈ (ints (EN p s n)).drop 0), 0) := this
    rw [this', List.drop_zero]; rfl
  · rw [nti h, if_pos h]
/-- What Match says. -/
def Mt (p : T34) (s : Str) (i : Nat) (r : T56 × Bool × Int) : Prop :=
  (r = ({ From := 0, To := 0 }, false, 0) ∧ ∀ j, i ≤ j → j ≤ s.length → EN p s j = []) ∨
  ∃ (j a : Nat) (l : List Nat), i ≤ j ∧ j ≤ s.length ∧ r = ({ From := (j : Int), To := (a : Int) }, true, 0) ∧ EN p s j = l ++ [a] ∧ ∀ j', i ≤ j' → j' < j → EN p s j' = []
theorem g23 {p : T34} (hr : rp p = true) {s : Str} (hs : s.length ≤ 100000000) (t6 : T56) : ∀ (m i : Nat), m + i = s.length + 1 → ∃ r, G23 (.p2 s p (i : Int) t6) = some r ∧ Mt p s i r
  | 0, i, h => by
    rw [G23.eq_2, dfi (by omega)]
    exact ⟨_, rfl, .inl ⟨rfl, fun j h1 h2 => by omega⟩⟩
  | m + 1, i, h => by
    have hl := en_len p s i
    rw [G23.eq_2, dti (by omega), f33' hr hs (by omega), sm, ls_so, wn1 i (by omega)]
    by_cases e : EN p s i = []
    · rw [dfi (by simp [ints, e])]
      obtain ⟨r, h1, h2⟩ := g23 hr hs t6 m (i + 1) (by omega)
      refine ⟨r, h1, ?_⟩
      rcases h2 with ⟨h2, h3⟩ | ⟨j, a, l, h2, h3, h4, h5, h6⟩
      · refine .inl ⟨h2, fun j k1 k2 => ?_⟩
        by_cases k : j = i
        · exact k ▸ e
        · exact h3 j (by omega) k2
      · refine .inr ⟨j, a, l, by omega, h3, h4, h5, fun j' k1 k2 => ?_⟩
        by_cases k : j' = i
        · exact k ▸ e
        · exact h6 j' (by omega) k2
    · have hp : 0 < (EN p s i).length := List.length_pos_iff.2 e
      obtain ⟨l, a, hla⟩ : ∃ l a, EN p s i = l ++ [a] := ⟨_, _, (List.dropLast_concat_getLast e).symm⟩
      rw [dti (by simp [ints]; omega), show (ints (EN p s i)).length = (EN p s i).length by simp [ints], wm1 _ (by omega) (by omega), ixs (c := (a : Int)) (by simp [ints, hla]), sm]
      exact ⟨_, rfl, .inr ⟨i, a, l, by omega, by omega, rfl, hla, fun j' k1 k2 => by omega⟩⟩
theorem f23 (p : T34) {s : Str} (hs : s.length ≤ 100000000) (fr : Int) : ∃ r, F23 p s fr = some r ∧
    ((flt p ≠ 0 ∧ r = ({ From := 0, To := 0 }, false, flt p)) ∨ (flt p = 0 ∧ (fr < 0 ∨ (s.length : Int) < fr) ∧ r = ({ From := 0, To := 0 }, false, 2)) ∨ (flt p = 0 ∧ 0 ≤ fr ∧ fr ≤ (s.length : Int) ∧ Mt p s fr.toNat r)) := by
  unfold F23
  rw [f32, sm]
  by_cases h : flt p = 0
  · rw [nfi h]
    by_cases h1 : fr < 0
    · rw [dti h1, G23.eq_1]; exact ⟨_, rfl, .inr (.inl ⟨h, .inl h1, rfl⟩)⟩
    rw [dfi h1]
    by_cases h2 : fr > (s.length : Int)
    · rw [dti h2, G23.eq_1]; exact ⟨_, rfl, .inr (.inl ⟨h, .inr h2, rfl⟩)⟩
    rw [dfi h2]
    obtain ⟨n, rfl⟩ := nat_of (by omega : 0 ≤ fr)
    obtain ⟨r, e, hr⟩ := g23 (flt_0 h).1 hs { From := 0, To := 0 } (s.length + 1 - n) n (by omega)
    exact ⟨r, e, .inr (.inr ⟨h, by omega, by omega, hr⟩)⟩
  · rw [nti h]; exact ⟨_, rfl, .inl ⟨h, rfl⟩⟩
end Go.Proofs.Ytjbafmnocopofaa
end
section
/-
  Nfa: the reference: which programs are right, their faults.
-/


namespace Go.Proofs.Ytjbafmnocopofaa
open Go AW
set_option linter.unusedVariables false
set_option linter.unusedSimpArgs false
set_option linter.unusedSectionVars false
set_option maxHeartbeats 4000000
theorem g34_5 (p : T34) (x : T52) : G34 (.p5 p x) = some (decide (0 ≤ x.To ∧ x.To < ((ls p.Code).length : Int))) := by
  rw [G34.eq_5]
  by_cases h : x.To ≥ 0
  · rw [dti h]; simp [h]
  · rw [dfi h]; simp [h]
theorem g34_6 (p : T34) (x : T52) : G34 (.p6 p x) = some (decide (0 ≤ x.Slot ∧ x.Slot < p.Slots)) := by
  rw [G34.eq_6]
  by_cases h : x.Slot ≥ 0
  · rw [dti h]; simp [h]
  · rw [dfi h]; simp [h]
theorem g34_8 (p : T34) (x : T52) (g : Bool) : G34 (.p8 p x g) = some (!g || decide (1 ≤ x.Group ∧ x.Group ≤ p.Groups)) := by
  rw [G34.eq_8]
  cases g with
  | false => rfl
  | true =>
    rw [if_neg (by simp)]
    by_cases h : x.Group ≥ 1
    · rw [dti h]; simp [h]
    · rw [dfi h]; simp [h]
theorem g34_7 (p : T34) (x : T52) : G34 (.p7 p x) = some (!(decide (x.Kind = 4) || decide (x.Kind = 5) || decide (x.Kind = 9) || decide (x.Kind = 6)) || decide (1 ≤ x.Group ∧ x.Group ≤ p.Groups)) := by
  rw [G34.eq_7]
  simp only [g34_8]
  have e : ∀ a b : Int, (a == b) = decide (a = b) := fun a b => by rw [Bool.eq_iff_iff]; simp
  simp only [e]
  by_cases h4 : x.Kind = 4
  · simp [h4]
  by_cases h5 : x.Kind = 5
  · simp [h5]
  by_cases h9 : x.Kind = 9
  · simp [h9]
  simp [h4, h5, h9]
theorem f34 (p : T34) (x : T52) (last : Bool) : F34 p x last = some (fit p x && ((x.Kind == 12) == last)) := by
  unfold F34
  simp only [G34.eq_2, G34.eq_3, G34.eq_4]
  have one : ∀ y : T52, G34 (.p1 last p x y) = if (decide (x = y) && (last == (x.Kind == 12))) = true then (if x.Kind = 2 ∨ x.Kind = 3 then some (decide (0 ≤ x.To ∧ x.To < ((ls p.Code).length : Int))) else if x.Kind = 7 ∨ x.Kind = 8 then some (decide (0 ≤ x.Slot ∧ x.Slot < p.Slots)) else if x.Kind = 6 then some (decide (x.Group ≤ x.Last ∧ x.Last ≤ p.Groups) && decide (1 ≤ x.Group ∧ x.Group ≤ p.Groups)) else some (!(decide (x.Kind = 4) || decide (x.Kind = 5) || decide (x.Kind = 9)) || decide (1 ≤ x.Group ∧ x.Group ≤ p.Groups))) else some false := by
    intro y
    rw [G34.eq_1, bite, bite]
    simp only [g34_5, g34_6, g34_7]
    have hno : ∀ (b : Bool), b = false → ∀ A : Option Bool, (if b = true then A else some false) = some false := fun b h A => by rw [h]; rfl
    by_cases hy : x = y
    · by_cases hl : (last == (x.Kind == 12)) = true
      · have hc : (decide (x = y) && (last == (x.Kind == 12))) = true := by rw [hl, decide_eq_true hy]; rfl
        rw [dti hy, ti hl, ti hc]
        by_cases h2 : x.Kind = 2
        · rw [eti h2, if_pos (.inl h2)]
        by_cases h3 : x.Kind = 3
        · rw [efi h2, eti h3, if_pos (.inr h3)]
        rw [efi h2, efi h3, if_neg (show ¬ (x.Kind = 2 ∨ x.Kind = 3) by omega)]
        by_cases h7 : x.Kind = 7
        · rw [eti h7, if_pos (.inl h7)]
        by_cases h8 : x.Kind = 8
        · rw [efi h7, eti h8, if_pos (.inr h8)]
        rw [efi h7, efi h8, if_neg (show ¬ (x.Kind = 7 ∨ x.Kind = 8) by omega)]
        by_cases h6 : x.Kind = 6
        · rw [eti h6, if_pos h6]
          by_cases k1 : x.Last < x.Group
          · rw [dti k1, decide_eq_false (p := x.Group ≤ x.Last ∧ _) (by omega)]; rfl
          · by_cases k2 : x.Last > p.Groups
            · rw [dfi k1, dti k2, decide_eq_false (p := x.Group ≤ x.Last ∧ _) (by omega)]; rfl
            · rw [dfi k1, dfi k2, decide_eq_true (p := x.Group ≤ x.Last ∧ _) (by omega)]; simp [h6]
        · rw [efi h6, if_neg h6]; simp [h6]
      · have hl' : (last == (x.Kind == 12)) = false := by simpa using hl
        rw [dti hy, fi_ hl', hno _ (by rw [hl', Bool.and_false])]
    · rw [dfi hy, hno _ (by rw [decide_eq_false hy, Bool.false_and])]
  simp only [one]
  unfold fit
  have sym : ∀ y : T52, decide (x = y) = decide (y = x) := fun y => by rw [Bool.eq_iff_iff]; simp [eq_comm]
  have bc : (last == (x.Kind == 12)) = ((x.Kind == 12) == last) := by cases last <;> cases (x.Kind == 12) <;> rfl
  simp only [sym, bc]
  rcases kinds x.Kind with h | h | h | h | h | h | h | h | h | h | h | h | h
  case inr.inr.inr.inr.inr.inr.inr.inr.inr.inr.inr.inr =>
    obtain ⟨a1, a2, a3, a4, a5, a6, a7, a8, a9, b1, b2, b3⟩ := h
    have e1 : ∀ k : Int, x.Kind ≠ k → (x.Kind == k) = false := fun k h => by simpa using h
    simp (config := {decide := true}) only [e1 _ a1, e1 _ a2, e1 _ a3, e1 _ a4, e1 _ a5, e1 _ a6, e1 _ a7, e1 _ a8, e1 _ a9, e1 _ b1, e1 _ b2, e1 _ b3, a1, a2, a3, a4, a5, a6, a7, a8, a9, b1, b2, b3, if_false, or_self, Bool.false_and, Bool.false_eq_true]
  all_goals
    simp (config := {decide := true}) only [h, if_true, if_false, true_or, or_true, or_false, false_or, decide_true, decide_false, Bool.true_or, Bool.or_true, Bool.not_true, Bool.not_false, Bool.false_or, Bool.or_false, Bool.true_or]
    generalize (decide (_ = x)) = A
    generalize (_ == last) = B
    cases A <;> cases B <;> simp [Bool.and_comm, Bool.and_assoc, Bool.and_left_comm]
theorem g19 (p : T34) (hn : (ls p.Code).length < 100000) : ∀ (k i : Nat), i + k = (ls p.Code).length → G19 (.p1 p (i : Int)) = some (fits p i ((ls p.Code).drop i))
  | 0, i, h => by
    rw [G19.eq_1, dfi (by omega), List.drop_of_length_le (by omega)]; rfl
  | k + 1, i, h => by
    obtain ⟨x, hx⟩ := get_ex (ls p.Code) (i := i) (by omega)
    have e : ((i : Int) == IntKind.wrap .i64 (((ls p.Code).length : Int) - 1)) = decide (i + 1 = (ls p.Code).length) := by
      rw [wi _ (by omega) (by omega), Bool.eq_iff_iff, beq_iff_eq, decide_eq_true_eq]; omega
    rw [G19.eq_1, dti (by omega), ixs hx, sm, e, f34, sm, wn1 i (by omega), g19 p hn k (i + 1) (by omega), drop_cons hx, fits]
    cases fit p x && ((x.Kind == 12) == decide (i + 1 = (ls p.Code).length)) <;> rfl
theorem f19 (p : T34) : F19 p = some (rp p) := by
  unfold F19 rp
  by_cases h1 : p.Groups < 0
  · rw [dti h1, decide_eq_false (by omega)]; rfl
  rw [dfi h1]
  by_cases h2 : p.Groups > 99
  · rw [dti h2, decide_eq_false (by omega)]; rfl
  rw [dfi h2]
  by_cases h3 : p.Slots < 0
  · rw [dti h3, decide_eq_false (by omega)]; rfl
  rw [dfi h3]
  by_cases h4 : p.Slots > 16384
  · rw [dti h4, decide_eq_false (by omega)]; rfl
  rw [dfi h4]
  by_cases h5 : ((ls p.Code).length : Int) < 1
  · rw [dti h5, decide_eq_false (by omega)]; rfl
  rw [dfi h5]
  by_cases h6 : ((ls p.Code).length : Int) > 16384
  · rw [dti h6, decide_eq_false (by omega)]; rfl
  rw [dfi h6, decide_eq_true (by omega)]
  have := g19 p (by omega) (ls p.Code).length 0 (by omega)
  simpa using this
theorem g35 (p : T34) (hn : (ls p.Code).length < 100000) : ∀ (k i : Nat), i + k = (ls p.Code).length → G35 (.p1 p (i : Int)) = some (if hb ((ls p.Code).drop i) = true then 101 else 0)
  | 0, i, h => by
    rw [G35.eq_1, dfi (by omega), List.drop_of_length_le (by omega)]; rfl
  | k + 1, i, h => by
    obtain ⟨x, hx⟩ := get_ex (ls p.Code) (i := i) (by omega)
    rw [G35.eq_1, dti (by omega), ixs hx, sm, drop_cons hx]
    by_cases e : x.Kind = 9
    · rw [eti e, if_pos (by simp [hb, e])]
    · rw [efi e, wn1 i (by omega), g35 p hn k (i + 1) (by omega)]
      have : hb (x :: (ls p.Code).drop (i + 1)) = hb ((ls p.Code).drop (i + 1)) := by simp [hb, e]
      rw [this]
theorem f35 (p : T34) : F35 p = some (flt p) := by
  unfold F35 flt
  rw [f19, sm, bite]
  by_cases h : rp p = true
  · have := rp_len h
    rw [if_pos h, if_pos h]
    exact g35 p (by omega) (ls p.Code).length 0 (by omega)
  · rw [if_neg h, if_neg h]
/-! ### Into: an instruction and all that it goes on to -/
theorem cnt_set {b : List Bool} {i : Nat} (h : b[i]? = some false) : (b.set i true).count false + 1 = b.count false := by
  induction b generalizing i with
  | nil => simp at h
  | cons x b ih =>
    cases i with
    | zero => simp at h; subst h; simp
    | succ i =>
      have := ih (i := i) (by simpa using h)
      simp only [List.set_cons_succ, List.count_cons]
      omega
theorem set_get {b : List Bool} {i j : Nat} (hi : i < b.length) : (b.set i true)[j]? = some true ↔ (j = i ∨ b[j]? = some true) := by
  rw [List.getElem?_set]
  by_cases e : i = j
  · subst e; simp [hi]
  · rw [if_neg e]
    constructor
    · exact .inr
    · rintro (h | h)
      · exact absurd h.symm e
      · exact h
structure Iv (C : List T52) (len q : Nat) (M0 A : Nat → Prop) (b : List Bool) (T : List Nat) : Prop where
  l : b.length = C.length
  m : ∀ j, M0 j → b[j]? = some true
  r : ∀ j, b[j]? = some true → M0 j ∨ (Rch C len q A j ∧ ∀ e ∈ eps C len q j, b[e]? = some true ∨ e ∈ T)
  t : ∀ t ∈ T, t < C.length ∧ Rch C len q A t
  a : ∀ a, A a → b[a]? = some true ∨ a ∈ T
theorem eps_len (C : List T52) (len q i : Nat) : (eps C len q i).length ≤ 2 := by
  unfold eps
  split
  · simp
  · split; simp
    split; simp
    split; simp
    split; simp
    split; (split <;> simp)
    split; (split <;> simp)
    simp
theorem g45 {p : T34} (hr : rp p = true) {s : Str} {q : Nat} {M0 A : Nat → Prop} : ∀ (m : Nat) (b : List Bool) (T : List Nat), 3 * b.count false + T.length ≤ m → T.length ≤ 100000 → 2 * b.count false + T.length ≤ 100000 → Iv (ls p.Code) s.length q M0 A b T →
    ∃ b', G45 (.p1 s (q : Int) p (some b) (some (ints T))) = some (some b') ∧ Iv (ls p.Code) s.length q M0 A b' [] := by
  have hlen := rp_len hr
  intro m
  induction m with
  | zero =>
    intro b T hm hT hT2 hI
    have : T = [] := List.eq_nil_of_length_eq_zero (by omega)
    subst this
    rw [G45.eq_1, dfi (by simp [ls, ints])]
    exact ⟨b, rfl, hI⟩
  | succ m ih =>
    intro b T hm hT hT2 hI
    by_cases hn : T = []
    · subst hn
      rw [G45.eq_1, dfi (by simp [ls, ints])]
      exact ⟨b, rfl, hI⟩
    obtain ⟨U, t, rfl⟩ : ∃ U t, T = U ++ [t] := ⟨_, _, (List.dropLast_concat_getLast hn).symm⟩
    have hTl : (ls (some (ints (U ++ [t])))).length = U.length + 1 := by simp [ls, ints]
    simp only [List.length_append, List.length_cons, List.length_nil] at hm hT hT2
    obtain ⟨htl, htr⟩ := hI.t t (by simp)
    have hix : ix (ls (some (ints (U ++ [t])))) ((U.length : Nat) : Int) = some (t : Int) := by rw [show ls (some (ints (U ++ [t]))) = ints (U ++ [t]) from rfl]; exact ixs (by simp [ints])
    have hcut : scut (some (ints (U ++ [t]))) 0 ((U.length : Nat) : Int) = some (some (ints U)) := by
      simp only [scut]
      rw [if_pos (by simp [ints]; omega)]
      simp [ints]
    obtain ⟨v, hv⟩ := get_ex b (i := t) (by rw [hI.l]; exact htl)
    rw [G45.eq_1, dti (by rw [hTl]; omega), hTl, wm1 _ (by omega) (by omega), Nat.add_sub_cancel, hix, sm, hcut, sm, show ls (some b) = b from rfl, ixs hv, sm]
    cases v with
    | true =>
      rw [if_pos rfl]
      refine ih b U (by omega) (by omega) (by omega) ⟨hI.l, hI.m, fun j hj => ?_, fun x hx => hI.t x (by simp [hx]), fun a ha => ?_⟩
      · rcases hI.r j hj with h | ⟨h1, h2⟩
        · exact .inl h
        · refine .inr ⟨h1, fun e he => ?_⟩
          rcases h2 e he with h | h
          · exact .inl h
          · rcases List.mem_append.1 h with h | h
            · exact .inr h
            · simp at h; subst h; exact .inl hv
      · rcases hI.a a ha with h | h
        · exact .inl h
        · rcases List.mem_append.1 h with h | h
          · exact .inr h
          · simp at h; subst h; exact .inl hv
    | false =>
      obtain ⟨x, hx⟩ := get_ex (ls p.Code) htl
      have hcs := cnt_set hv
      have htb : t < b.length := by rw [hI.l]; exact htl
      rw [if_neg (by simp), sm, ixs hx, sm]
      have vs : vset (some b) (t : Int) true = some (b.set t true) := rfl
      rw [vs]
      have el := eps_len (ls p.Code) s.length q t
      have fin : ∃ b', G45 (.p1 s (q : Int) p (some (b.set t true)) (some (ints (U ++ eps (ls p.Code) s.length q t)))) = some (some b') ∧ Iv (ls p.Code) s.length q M0 A b' [] := by
        refine ih (b.set t true) (U ++ eps (ls p.Code) s.length q t) ?_ ?_ ?_ ⟨by rw [List.length_set]; exact hI.l, fun j hj => (set_get htb).2 (.inr (hI.m j hj)), fun j hj => ?_, fun y hy => ?_, fun a ha => ?_⟩
        · rw [List.length_append]; omega
        · rw [List.length_append]; omega
        · rw [List.length_append]; omega
        · rcases (set_get htb).1 hj with rfl | hj
          · exact .inr ⟨htr, fun e he => .inr (by simp [he])⟩
          · rcases hI.r j hj with h | ⟨h1, h2⟩
            · exact .inl h
            · refine .inr ⟨h1, fun e he => ?_⟩
              rcases h2 e he with h | h
              · exact .inl ((set_get htb).2 (.inr h))
              · rcases List.mem_append.1 h with h | h
                · exact .inr (by simp [h])
                · simp at h; subst h; exact .inl ((set_get htb).2 (.inl rfl))
        · rcases List.mem_append.1 hy with hy | hy
          · exact hI.t y (by simp [hy])
          · exact ⟨eps_lt hr hy, .step htr hy⟩
        · rcases hI.a a ha with h | h
          · exact .inl ((set_get htb).2 (.inr h))
          · rcases List.mem_append.1 h with h | h
            · exact .inr (by simp [h])
            · simp at h; subst h; exact .inl ((set_get htb).2 (.inl rfl))
      have gd : ∀ l : List Int, l.length ≤ 2 → ((ls (some (ints U))).length + (ls (some l)).length) * 8 ≤ 140737488355328 := fun l hl => by simp [ls, ints]; omega
      have ap : ∀ (l : List Nat) (l' : List Int), l' = ints l → sapp (some (ints U)) (ls (some l')) = some (ints (U ++ l)) := fun l l' e => by subst e; simp [sapp, ls, ints]
      have e1 : IntKind.wrap .i64 ((t : Int) + 1) = ((t + 1 : Nat) : Int) := wn1 t (by omega)
      have hfx := (rp_at hr hx).1
      unfold eps at fin
      rw [hx] at fin
      simp only at fin
      rw [e1]
      by_cases h1 : x.Kind = 1
      · rw [eti h1]; rw [if_pos h1, List.append_nil] at fin; exact fin
      rw [efi h1]; rw [if_neg h1] at fin
      by_cases h12 : x.Kind = 12
      · rw [eti h12]; rw [if_pos h12, List.append_nil] at fin; exact fin
      rw [efi h12]; rw [if_neg h12] at fin
      by_cases h2 : x.Kind = 2
      · obtain ⟨o, ho⟩ := nat_of (fit_to hfx (.inl h2)).1
        rw [if_pos h2] at fin
        rw [eti h2, if_pos (gd _ (by simp)), ap [t + 1, x.To.toNat] _ (by simp [ints, ho])]; exact fin
      rw [efi h2]; rw [if_neg h2] at fin
      by_cases h3 : x.Kind = 3
      · obtain ⟨o, ho⟩ := nat_of (fit_to hfx (.inr h3)).1
        rw [if_pos h3] at fin
        rw [eti h3, if_pos (gd _ (by simp)), ap [x.To.toNat] _ (by simp [ints, ho])]; exact fin
      rw [efi h3]; rw [if_neg h3] at fin
      by_cases h10 : x.Kind = 10
      · rw [if_pos h10] at fin
        rw [eti h10]
        by_cases hq : q = 0
        · rw [if_pos hq] at fin
          rw [eti (by omega), if_pos (gd _ (by simp)), ap [t + 1] _ (by simp [ints])]; exact fin
        · rw [if_neg hq, List.append_nil] at fin
          rw [efi (by omega)]; exact fin
      rw [efi h10]; rw [if_neg h10] at fin
      by_cases h11 : x.Kind = 11
      · rw [if_pos h11] at fin
        rw [eti h11]
        by_cases hq : q = s.length
        · rw [if_pos hq] at fin
          rw [eti (by omega), if_pos (gd _ (by simp)), ap [t + 1] _ (by simp [ints])]; exact fin
        · rw [if_neg hq, List.append_nil] at fin
          rw [efi (by omega)]; exact fin
      rw [efi h11]; rw [if_neg h11] at fin
      rw [if_pos (gd _ (by simp)), ap [t + 1] _ (by simp [ints])]; exact fin
theorem rch_or {C : List T52} {len q : Nat} {A B : Nat → Prop} {j : Nat} : Rch C len q (fun x => A x ∨ B x) j ↔ Rch C len q A j ∨ Rch C len q B j := by
  constructor
  · intro h
    induction h with
    | base h => exact h.imp .base .base
    | step _ e ih => exact ih.imp (fun h => .step h e) (fun h => .step h e)
  · rintro (h | h)
    · induction h with
      | base h => exact .base (.inl h)
      | step _ e ih => exact .step ih e
    · induction h with
      | base h => exact .base (.inr h)
      | step _ e ih => exact .step ih e
theorem f45 {p : T34} (hr : rp p = true) {s : Str} {q : Nat} {M0 : Nat → Prop} (hM : ∀ i, M0 i → ∀ e ∈ eps (ls p.Code) s.length q i, M0 e) (b : List Bool) (hb : b.length = (ls p.Code).length) (hbm : ∀ j, b[j]? = some true ↔ M0 j) (t : Nat) (ht : t < (ls p.Code).length) :
    ∃ b', F45 p (some b) (t : Int) s (q : Int) = some (some b') ∧ b'.length = (ls p.Code).length ∧ ∀ j, b'[j]? = some true ↔ (M0 j ∨ Rch (ls p.Code) s.length q (fun x => x = t) j) := by
  have hlen := rp_len hr
  have hc := List.count_le_length (a := false) (l := b)
  obtain ⟨b', e, hI⟩ := g45 hr (s := s) (q := q) (M0 := M0) (A := fun x => x = t) (3 * b.count false + 1) b [t] (by simp) (by simp) (by simp; omega) ⟨hb, fun j h => (hbm j).2 h, fun j h => .inl ((hbm j).1 h), fun x hx => by simp at hx; subst hx; exact ⟨ht, .base rfl⟩, fun a ha => .inr (by simp [ha])⟩
  refine ⟨b', e, hI.l, fun j => ⟨fun h => ?_, fun h => ?_⟩⟩
  · rcases hI.r j h with h | ⟨h, _⟩
    · exact .inl h
    · exact .inr h
  · rcases h with h | h
    · exact hI.m j h
    · induction h with
      | base h => rcases hI.a _ h with h | h
                  · exact h
                  · simp at h
      | step _ e ih =>
        rcases hI.r _ ih with h | ⟨_, h⟩
        · exact hI.m _ (hM _ h _ e)
        · rcases h _ e with h | h
          · exact h
          · simp at h
end Go.Proofs.Ytjbafmnocopofaa
end
section
/-
  Nfa: the reference's ends, Ends, Whole, Match, Copy and Same.
-/

namespace Go.Proofs.Ytjbafmnocopofaa
open Go AW
set_option linter.unusedVariables false
set_option linter.unusedSimpArgs false
set_option linter.unusedSectionVars false
set_option maxHeartbeats 4000000
theorem cf_ge {C : List T52} {s : Str} {fr q j : Nat} (h : Cf C s fr q j) : fr ≤ q := by
  induction h with
  | start => omega
  | eps _ _ ih => exact ih
  | chr _ _ _ _ _ ih => omega
theorem cf_first {C : List T52} {s : Str} {fr j : Nat} : Cf C s fr fr j ↔ Rch C s.length fr (fun x => x = 0) j := by
  rw [cf_rch]
  have : Base C s fr fr = fun x => x = 0 := by
    funext x
    apply propext
    constructor
    · rintro (⟨_, h⟩ | ⟨q', i, x, b, h, rfl, hc, _⟩)
      · exact h
      · have := cf_ge hc; omega
    · intro h; exact .inl ⟨rfl, h⟩
  rw [this]
theorem hit_some2 {C : List T52} {s : Str} {q i : Nat} (h : hit C s q i = true) : ∃ x b, C[i]? = some x ∧ s[q]? = some b ∧ x.Kind = 1 ∧ hasB x.Set b = true := by
  unfold hit at h
  split at h
  · rename_i x b hx hb
    simp only [Bool.and_eq_true, beq_iff_eq] at h
    exact ⟨x, b, hx, hb, h.1, h.2⟩
  · cases h
/-- To which instructions a byte leads, of those below one. -/
def Nx (C : List T52) (s : Str) (fr q k a : Nat) : Prop := ∃ k', k' < k ∧ hit C s q k' = true ∧ Cf C s fr q k' ∧ a = k' + 1
theorem nx_base {C : List T52} {s : Str} {fr q : Nat} (hq : fr ≤ q) : Nx C s fr q C.length = Base C s fr (q + 1) := by
  funext a
  apply propext
  constructor
  · rintro ⟨k, hk, hh, hc, rfl⟩
    obtain ⟨x, b, h1, h2, h3, h4⟩ := hit_some2 hh
    exact .inr ⟨q, k, x, b, rfl, rfl, hc, h1, h3, h2, h4⟩
  · rintro (⟨h, _⟩ | ⟨q', i, x, b, h, rfl, hc, h1, h2, h3, h4⟩)
    · omega
    · obtain rfl : q = q' := by omega
      exact ⟨i, ge_lt h1, by rw [hit_is h1 h2 h3]; exact h4, hc, rfl⟩
theorem hasB_exp (b : UInt8) (S : Arr 4 Int) {α : Type} (A B : Option α) :
    (if (0 : Int) ≤ IntKind.wrap .u8 (Int.tdiv (b.toNat : Int) 64) ∧ IntKind.wrap .u8 (Int.tdiv (b.toNat : Int) 64) < (4 : Int) then
      (ix S.l (IntKind.wrap .u8 (Int.tdiv (b.toNat : Int) 64)) >>= fun v => some b >>= fun b' => if 0 ≤ Int.tmod (b'.toNat : Int) 64 then (if (andI .u64 (shrI .u64 v (Int.tmod (b'.toNat : Int) 64)) 1 == 1) = true then A else B) else none) else none) = if hasB S b = true then A else B := by
  have hbl : b.toNat < 256 := b.toNat_lt
  obtain ⟨h1, h2⟩ := div64 ⟨b.toNat, hbl⟩
  simp only at h1 h2
  have hl := S.h
  obtain ⟨v, hv⟩ := get_ex S.l (i := b.toNat / 64) (by omega)
  rw [h1, if_pos (by omega), ixs hv, sm, sm, h2, if_pos (by omega)]
  unfold hasB
  simp [List.getD, hv]
section
variable {p : T34} (hr : rp p = true) {s : Str} (hs : s.length ≤ 100000000) {fr : Nat}
include hr hs
theorem g36_3 {q : Nat} (hq : q < s.length) (hfq : fr ≤ q) (b : List Bool) (hb : b.length = (ls p.Code).length) (hbm : ∀ j, b[j]? = some true ↔ Cf (ls p.Code) s fr q j) (out : Sl Int) :
    ∀ (m k : Nat) (any : Bool) (nb : List Bool), m + k = (ls p.Code).length → nb.length = (ls p.Code).length → (∀ j, nb[j]? = some true ↔ Rch (ls p.Code) s.length (q + 1) (Nx (ls p.Code) s fr q k) j) → (any = true ↔ ∃ a, Nx (ls p.Code) s fr q k a) →
    ∃ nb' any', nb'.length = (ls p.Code).length ∧ (∀ j, nb'[j]? = some true ↔ Cf (ls p.Code) s fr (q + 1) j) ∧ (any' = true ↔ ∃ a, Base (ls p.Code) s fr (q + 1) a) ∧
      G36 (.p3 s p (q : Int) any (k : Int) out (some b) (some nb)) = if any' = true then G36 (.p1 s p ((q + 1 : Nat) : Int) out (some nb')) else some out
  | 0, k, any, nb, h, hn, hnm, ha => by
    obtain rfl : k = (ls p.Code).length := by omega
    rw [nx_base hfq] at hnm ha
    refine ⟨nb, any, hn, fun j => by rw [hnm, cf_rch], ha, ?_⟩
    rw [G36.eq_3, dfi (by show ¬ _ < (b.length : Int); omega), wn1 q (by omega)]
    cases any <;> rfl
  | m + 1, k, any, nb, h, hn, hnm, ha => by
    have hlen := rp_len hr
    have hk : k < (ls p.Code).length := by omega
    obtain ⟨v, hv⟩ := get_ex b (i := k) (by omega)
    obtain ⟨x, hx⟩ := get_ex (ls p.Code) hk
    obtain ⟨c, hc⟩ := get_ex s hq
    have grow : ∀ a, Nx (ls p.Code) s fr q (k + 1) a ↔ Nx (ls p.Code) s fr q k a ∨ (hit (ls p.Code) s q k = true ∧ Cf (ls p.Code) s fr q k ∧ a = k + 1) := by
      intro a
      constructor
      · rintro ⟨k', h1, h2⟩
        by_cases e : k' = k
        · subst e; exact .inr h2
        · exact .inl ⟨k', by omega, h2⟩
      · rintro (⟨k', h1, h2⟩ | h2)
        · exact ⟨k', by omega, h2⟩
        · exact ⟨k, by omega, h2⟩
    have same : ¬ (hit (ls p.Code) s q k = true ∧ Cf (ls p.Code) s fr q k) → ∃ nb' any', nb'.length = (ls p.Code).length ∧ (∀ j, nb'[j]? = some true ↔ Cf (ls p.Code) s fr (q + 1) j) ∧ (any' = true ↔ ∃ a, Base (ls p.Code) s fr (q + 1) a) ∧
        G36 (.p3 s p (q : Int) any (IntKind.wrap .i64 ((k : Int) + 1)) out (some b) (some nb)) = if any' = true then G36 (.p1 s p ((q + 1 : Nat) : Int) out (some nb')) else some out := by
      intro hno
      have e : Nx (ls p.Code) s fr q (k + 1) = Nx (ls p.Code) s fr q k := by
        funext a; apply propext; rw [grow]
        constructor
        · rintro (h | ⟨h1, h2, _⟩)
          · exact h
          · exact absurd ⟨h1, h2⟩ hno
        · exact .inl
      rw [wn1 k (by omega)]
      exact g36_3 hq hfq b hb hbm out m (k + 1) any nb (by omega) hn (by rw [e]; exact hnm) (by rw [e]; exact ha)
    rw [G36.eq_3, dti (by show _ < (b.length : Int); omega), show ls (some b) = b from rfl, ixs hv, sm]
    cases v with
    | false =>
      rw [if_neg (by simp)]
      exact same fun h => by
        have := (hbm k).2 h.2
        rw [hv] at this; cases this
    | true =>
      have hcf := (hbm k).1 hv
      rw [if_pos rfl, ixs hx, sm]
      by_cases hk1 : x.Kind = 1
      · rw [eti hk1, ixs hc, sm, sm, hasB_exp c x.Set]
        by_cases hh : hasB x.Set c = true
        · have hkl : k + 1 < (ls p.Code).length := by
            have : k + 1 ≠ (ls p.Code).length := fun e => by have := (rp_at hr hx).2.2 e; omega
            omega
          have hhit : hit (ls p.Code) s q k = true := by rw [hit_is hx hk1 hc]; exact hh
          obtain ⟨nb1, e1, l1, m1⟩ := f45 hr (s := s) (q := q + 1) (M0 := Rch (ls p.Code) s.length (q + 1) (Nx (ls p.Code) s fr q k)) (fun i hi e he => .step hi he) nb hn hnm (k + 1) hkl
          rw [ti hh, wn1 k (by omega), wn1 q (by omega), e1, sm, if_pos (by simp [l1, hn])]
          refine g36_3 hq hfq b hb hbm out m (k + 1) true nb1 (by omega) l1 (fun j => ?_) ⟨fun _ => ⟨k + 1, (grow _).2 (.inr ⟨hhit, hcf, rfl⟩)⟩, fun _ => rfl⟩
          rw [m1, ← rch_or]
          have e : (fun x => Nx (ls p.Code) s fr q k x ∨ x = k + 1) = Nx (ls p.Code) s fr q (k + 1) := by
            funext a; apply propext; rw [grow]
            exact or_congr Iff.rfl ⟨fun h => ⟨hhit, hcf, h⟩, fun h => h.2.2⟩
          rw [e]
        · rw [fi_ (by simpa using hh)]
          exact same fun h => by
            have := h.1
            rw [hit_is hx hk1 hc] at this
            exact hh this
      · rw [efi hk1]
        exact same fun h => hit_ne hx hk1 h.1
theorem g36_1 : ∀ (m q : Nat) (b : List Bool) (out : List Int), m + q = s.length → fr ≤ q → out.length ≤ q → b.length = (ls p.Code).length → (∀ j, b[j]? = some true ↔ Cf (ls p.Code) s fr q j) →
    G36 (.p1 s p (q : Int) (so out) (some b)) = some (so (out ++ endsF (ls p.Code) s fr q)) := by
  have hlen := rp_len hr
  intro m
  induction m with
  | zero =>
    intro q b out hm hfq ho hb hbm
    obtain ⟨v, hv⟩ := get_ex b (i := (ls p.Code).length - 1) (by omega)
    have e : endsF (ls p.Code) s fr q = if v = true then [(q : Int)] else [] := by
      have hv' := hbm ((ls p.Code).length - 1)
      rw [hv] at hv'
      unfold endsF
      rw [show s.length + 1 - q = 1 by omega]
      cases v with
      | true =>
        have : acc (ls p.Code) s fr q = true := by unfold acc; simpa using hv'.1 rfl
        simp [List.range', this]
      | false =>
        have : acc (ls p.Code) s fr q = false := by unfold acc; simpa using hv'
        simp [List.range', this]
    rw [G36.eq_1, show ls (some b) = b from rfl, show (b.length : Int) - 1 = (((b.length - 1 : Nat)) : Int) by omega, wn _ (by omega), hb, ixs hv, sm, e]
    cases v with
    | true =>
      rw [if_pos rfl, if_pos (by rw [ls_so]; simp [ls]; omega), show ls (some [(q : Int)]) = [(q : Int)] from rfl, sapp_so, G36.eq_2, eti (by omega), if_pos rfl]
    | false =>
      rw [if_neg (by simp), G36.eq_2, eti (by omega), if_neg (by simp), List.append_nil]
  | succ m ih =>
    intro q b out hm hfq ho hb hbm
    obtain ⟨v, hv⟩ := get_ex b (i := (ls p.Code).length - 1) (by omega)
    have hbt := hbm ((ls p.Code).length - 1)
    rw [hv] at hbt
    have hend : endsF (ls p.Code) s fr q = (if v = true then [(q : Int)] else []) ++ endsF (ls p.Code) s fr (q + 1) := by
      unfold endsF
      rw [show s.length + 1 - q = (s.length + 1 - (q + 1)) + 1 by omega, List.range'_succ]
      cases v with
      | true =>
        have : acc (ls p.Code) s fr q = true := by unfold acc; simpa using hbt.1 rfl
        rw [List.filter_cons_of_pos this]; rfl
      | false =>
        have : acc (ls p.Code) s fr q = false := by unfold acc; simpa using hbt
        rw [List.filter_cons_of_neg (by simp [this])]; rfl
    have two : ∀ out : List Int, out.length ≤ q + 1 → G36 (.p2 s p (q : Int) (so out) (some b)) = some (so (out ++ endsF (ls p.Code) s fr (q + 1))) := by
      intro out ho
      have hfalse : ∀ j : Nat, ¬ (List.replicate (Int.toNat ((ls p.Code).length : Int)) false)[j]? = some true := fun j h => by
        rw [List.getElem?_replicate] at h
        split at h <;> simp at h
      have hno : ∀ j, ¬ Rch (ls p.Code) s.length (q + 1) (Nx (ls p.Code) s fr q 0) j := by
        intro j h
        induction h with
        | base h => obtain ⟨k, hk, _⟩ := h; omega
        | step _ _ ih => exact ih
      obtain ⟨nb', any', l', m', a', e⟩ := g36_3 hr hs (q := q) (by omega) hfq b hb hbm (so out) (ls p.Code).length 0 false (List.replicate (Int.toNat ((ls p.Code).length : Int)) false) (by omega) (by simp) (fun j => ⟨fun h => absurd h (hfalse j), fun h => absurd h (hno j)⟩) ⟨fun h => (by cases h), fun ⟨a, k, hk, _⟩ => by omega⟩
      have e' : G36 (.p3 s p (q : Int) false 0 (so out) (some b) (some (List.replicate (Int.toNat ((ls p.Code).length : Int)) false))) = _ := e
      rw [G36.eq_2, efi (by omega), if_pos (by omega), e']
      cases any' with
      | true => rw [if_pos rfl]; exact ih (q + 1) nb' out (by omega) (by omega) ho l' m'
      | false =>
        have hB : ∀ j, ¬ Base (ls p.Code) s fr (q + 1) j := fun j h => by simpa using a'.2 ⟨j, h⟩
        rw [if_neg (by simp), endsF_nil (no_cf (by omega) hB (by omega)), List.append_nil]
    rw [G36.eq_1, show ls (some b) = b from rfl, show (b.length : Int) - 1 = (((b.length - 1 : Nat)) : Int) by omega, wn _ (by omega), hb, ixs hv, sm, hend]
    cases v with
    | true =>
      rw [if_pos rfl, if_pos (by rw [ls_so]; simp [ls]; omega), show ls (some [(q : Int)]) = [(q : Int)] from rfl, sapp_so, two _ (by simp; omega), if_pos rfl, List.append_assoc]
    | false =>
      rw [if_neg (by simp), two _ (by omega), if_neg (by simp), List.nil_append]
theorem f36 (hfr : fr ≤ s.length) : F36 p s (fr : Int) = some (so (ints (EN p s fr))) := by
  have hlen := rp_len hr
  have hfalse : ∀ j : Nat, ¬ (List.replicate (Int.toNat ((ls p.Code).length : Int)) false)[j]? = some true := fun j h => by
    rw [List.getElem?_replicate] at h
    split at h <;> simp at h
  obtain ⟨b', e, l', m'⟩ := f45 hr (s := s) (q := fr) (M0 := fun _ => False) (fun i h => h.elim) (List.replicate (Int.toNat ((ls p.Code).length : Int)) false) (by simp) (fun j => ⟨fun h => hfalse j h, fun h => h.elim⟩) 0 (by omega)
  have e' : F45 p (some (List.replicate (Int.toNat ((ls p.Code).length : Int)) false)) 0 s (fr : Int) = _ := e
  unfold F36
  rw [if_pos (by omega), e', sm, if_pos (by simp [l'])]
  have := g36_1 hr hs (fr := fr) (s.length - fr) fr b' [] (by omega) (Nat.le_refl _) (by simp) l' (fun j => by rw [m', cf_first]; simp)
  rw [List.nil_append] at this
  exact this
end
end Go.Proofs.Ytjbafmnocopofaa
end
section
/-
  Twins with fuel of printed functions: closed runs are run by the kernel.
-/

namespace Go.Proofs.Ytjbafmnocopofaa
open Go AW
set_option linter.unusedVariables false
set_option linter.unusedSimpArgs false
set_option maxRecDepth 100000
set_option maxHeartbeats 4000000
def Le {α : Type} (x y : Option α) : Prop := ∀ r, x = some r → y = some r
theorem le_refl {α : Type} (x : Option α) : Le x x := fun _ h => h
theorem le_none {α : Type} (x : Option α) : Le none x := fun _ h => by cases h
theorem le_bind {α β : Type} {x y : Option α} {f g : α → Option β} (h : Le x y) (h' : ∀ v, Le (f v) (g v)) : Le (x >>= f) (y >>= g) := fun r e => by
  obtain ⟨v, e1, e2⟩ := bind_some e
  rw [h v e1]; exact h' v r e2
theorem le_ite {α : Type} {c : Prop} [Decidable c] {x y x' y' : Option α} (h : Le x x') (h' : Le y y') : Le (if c then x else y) (if c then x' else y') := fun r e => by
  by_cases k : c
  · rw [if_pos k] at e ⊢; exact h r e
  · rw [if_neg k] at e ⊢; exact h' r e
noncomputable def HG31 (fu : Nat)  : St31 → Option Bool := fun st => match st with
 | .p1 n kids want =>
  (if (kids == want) = true then
   (if (n.Kind == 2) = true then
    (if (n.Kind == 5) = true then
     (if (n.Kind == 6) = true then
      (some true)
     else
      (if (n.Kind == 7) = true then
       (some true)
      else
       (some (n.Group == 0))))
    else
     (if (n.Min == 0) = true then
      (if (n.Max == 0) = true then
       (if (n.Kind == 6) = true then
        (some true)
       else
        (if (n.Kind == 7) = true then
         (some true)
        else
         (some (n.Group == 0))))
      else
       (some false))
     else
      (some false)))
   else
    (if (decide (n.Set = (Arr.rep 4 0))) = true then
     (if (n.Kind == 5) = true then
      (if (n.Kind == 6) = true then
       (some true)
      else
       (if (n.Kind == 7) = true then
        (some true)
       else
        (some (n.Group == 0))))
     else
      (if (n.Min == 0) = true then
       (if (n.Max == 0) = true then
        (if (n.Kind == 6) = true then
         (some true)
        else
         (if (n.Kind == 7) = true then
          (some true)
         else
          (some (n.Group == 0))))
       else
        (some false))
      else
       (some false)))
    else
     (some false)))
  else
   (some false))
theorem leG31 (fu : Nat) (st : St31) : Le (HG31 fu st) (G31 st) := by
  unfold HG31 G31
  cases st <;> dsimp only <;> (repeat' (with_reducible first | exact le_refl _ | apply le_ite | refine le_bind ?_ (fun _ => ?_)))
noncomputable def HF31 (fu : Nat) (n : T27) : Option Bool :=
 (if (n.Kind == 3) = true then
  (HG31 fu (.p1 n ((ls n.Kids).length : Int) (if 2 > ((ls n.Kids).length : Int) then 2 else ((ls n.Kids).length : Int))))
 else
  (if (n.Kind == 4) = true then
   (HG31 fu (.p1 n ((ls n.Kids).length : Int) (if 2 > ((ls n.Kids).length : Int) then 2 else ((ls n.Kids).length : Int))))
  else
   (if (n.Kind == 5) = true then
    (if (decide (n.Min < 0)) = true then
     (some false)
    else
     (if (decide (n.Min > 255)) = true then
      (some false)
     else
      (if (n.Max != (-1)) = true then
       (if (decide (n.Max < n.Min)) = true then
        (some false)
       else
        (if (decide (n.Max > 255)) = true then
         (some false)
        else
         (HG31 fu (.p1 n ((ls n.Kids).length : Int) 1))))
      else
       (HG31 fu (.p1 n ((ls n.Kids).length : Int) 1)))))
   else
    (if (n.Kind == 6) = true then
     (HG31 fu (.p1 n ((ls n.Kids).length : Int) 1))
    else
     (if (n.Kind == 1) = true then
      (HG31 fu (.p1 n ((ls n.Kids).length : Int) 0))
     else
      (if (n.Kind == 2) = true then
       (HG31 fu (.p1 n ((ls n.Kids).length : Int) 0))
      else
       (if (n.Kind == 7) = true then
        (HG31 fu (.p1 n ((ls n.Kids).length : Int) 0))
       else
        (if (n.Kind == 8) = true then
         (HG31 fu (.p1 n ((ls n.Kids).length : Int) 0))
        else
         (if (n.Kind == 9) = true then
          (HG31 fu (.p1 n ((ls n.Kids).length : Int) 0))
         else
          (some false))))))))))
theorem leF31 (fu : Nat) (n : T27) : Le (HF31 fu n) (F31 n) := by
  unfold HF31 F31
  repeat' (with_reducible first | exact leG31 fu _ | exact le_refl _ | apply le_ite | refine le_bind ?_ (fun _ => ?_))
noncomputable def SG38 (fu : Nat)  (ih : St38 → Option (Int × Int)) : St38 → Option (Int × Int) := fun st => match st with
 | .e n =>
  (if (n.Kind == 6) = true then
   (ih (.p1 n n.Group n.Group))
  else
   (ih (.p1 n 0 0)))
 | .p1 n low high =>
  (ih (.p2 low high n.Kids ((ls n.Kids).length : Int) 0))
 | .p2 low high t18_ t19_ t20_ =>
  (if (decide (t20_ < t19_)) = true then
   (ix (ls t18_) t20_ >>= fun v_3 =>
    (ih (.e v_3) >>= fun r_6 =>
     (if (decide (r_6.1 > 0)) = true then
      (if (low == 0) = true then
       (ih (.p3 r_6.1 high r_6.2 t18_ t19_ t20_))
      else
       (if (decide (r_6.1 < low)) = true then
        (ih (.p3 r_6.1 high r_6.2 t18_ t19_ t20_))
       else
        (ih (.p3 low high r_6.2 t18_ t19_ t20_))))
     else
      (ih (.p3 low high r_6.2 t18_ t19_ t20_)))))
  else
   (some (low, high)))
 | .p3 low high b t18_ t19_ t20_ =>
  (ih (.p2 low (if b > high then b else high) t18_ t19_ (IntKind.wrap .i64 (t20_ + 1))))
noncomputable def HG38 (fu : Nat)  : St38 → Option (Int × Int) :=
 Nat.rec (motive := fun _ => St38 → Option (Int × Int)) (fun _ => none) (fun fu ih => SG38 fu ih) fu
theorem HG38_s (fu : Nat)  (st : St38) : HG38 (fu + 1) st = SG38 fu (HG38 fu) st := rfl
theorem leG38 (fu : Nat) (st : St38) : Le (HG38 fu st) (G38 st) := by
  induction fu generalizing st with
  | zero => exact le_none _
  | succ fu ih =>
    cases st
    · rw [HG38_s, G38.eq_1]
      unfold SG38
      dsimp only
      generalize HG38 fu = hh at ih ⊢
      repeat' (with_reducible first | exact ih _ | exact le_refl _ | apply le_ite | refine le_bind ?_ (fun _ => ?_))
    · rw [HG38_s, G38.eq_2]
      unfold SG38
      dsimp only
      generalize HG38 fu = hh at ih ⊢
      repeat' (with_reducible first | exact ih _ | exact le_refl _ | apply le_ite | refine le_bind ?_ (fun _ => ?_))
    · rw [HG38_s, G38.eq_3]
      unfold SG38
      dsimp only
      generalize HG38 fu = hh at ih ⊢
      repeat' (with_reducible first | exact ih _ | exact le_refl _ | apply le_ite | refine le_bind ?_ (fun _ => ?_))
    · rw [HG38_s, G38.eq_4]
      unfold SG38
      dsimp only
      generalize HG38 fu = hh at ih ⊢
      repeat' (with_reducible first | exact ih _ | exact le_refl _ | apply le_ite | refine le_bind ?_ (fun _ => ?_))
noncomputable def HF38 (fu : Nat) (n : T27) : Option (Int × Int) := HG38 fu (.e n)
theorem leF38 (fu : Nat) (n : T27) : Le (HF38 fu n) (F38 n) := by
  unfold HF38 F38
  repeat' (with_reducible first | exact leG38 fu _ | exact le_refl _ | apply le_ite | refine le_bind ?_ (fun _ => ?_))
noncomputable def HF29 (fu : Nat) (n : T27) : Option T27 :=
 (some n)
theorem leF29 (fu : Nat) (n : T27) : Le (HF29 fu n) (F29 n) := by
  unfold HF29 F29
  repeat' (with_reducible first | exact le_refl _ | apply le_ite | refine le_bind ?_ (fun _ => ?_))
noncomputable def SG41 (fu : Nat) {σ : Type} (Y : T27 → σ → Option (Bool × σ)) (ih : St41 σ → Option (Bool × σ)) : St41 σ → Option (Bool × σ) := fun st => match st with
 | .e n s_ =>
  (Y n s_ >>= fun r_1 =>
   (if (!r_1.1) = true then
    (some (false, r_1.2))
   else
    (ih (.p1 n ((ls n.Kids).length : Int) 0 r_1.2))))
 | .p1 n t14_ t15_ s_ =>
  (if (decide (t15_ < t14_)) = true then
   (ix (ls n.Kids) t15_ >>= fun v_5 =>
    (ih (.e v_5 s_) >>= fun r_7 =>
     (if (!r_7.1) = true then
      (some (false, r_7.2))
     else
      (ih (.p1 n t14_ (IntKind.wrap .i64 (t15_ + 1)) r_7.2)))))
  else
   (some (true, s_)))
noncomputable def HG41 (fu : Nat) {σ : Type} (Y : T27 → σ → Option (Bool × σ)) : St41 σ → Option (Bool × σ) :=
 Nat.rec (motive := fun _ => St41 σ → Option (Bool × σ)) (fun _ => none) (fun fu ih => SG41 fu Y ih) fu
theorem HG41_s (fu : Nat) {σ : Type} (Y : T27 → σ → Option (Bool × σ)) (st : St41 σ) : HG41 (fu + 1) Y st = SG41 fu Y (HG41 fu Y) st := rfl
theorem leG41 (fu : Nat) {σ : Type} (Y Y2 : T27 → σ → Option (Bool × σ)) (hY : ∀ a b, Le (Y a b) (Y2 a b)) (st : St41 σ) : Le (HG41 fu Y st) (G41 Y2 st) := by
  induction fu generalizing st with
  | zero => exact le_none _
  | succ fu ih =>
    cases st
    · rw [HG41_s, G41.eq_1]
      unfold SG41
      dsimp only
      generalize HG41 fu Y = hh at ih ⊢
      repeat' (with_reducible first | exact ih _ | exact hY _ _ | exact le_refl _ | apply le_ite | refine le_bind ?_ (fun _ => ?_))
    · rw [HG41_s, G41.eq_2]
      unfold SG41
      dsimp only
      generalize HG41 fu Y = hh at ih ⊢
      repeat' (with_reducible first | exact ih _ | exact hY _ _ | exact le_refl _ | apply le_ite | refine le_bind ?_ (fun _ => ?_))
noncomputable def HF41 (fu : Nat) {σ : Type} (Y : T27 → σ → Option (Bool × σ)) (n : T27) (s_ : σ) : Option (Bool × σ) := HG41 fu Y (.e n s_)
theorem leF41 (fu : Nat) {σ : Type} (Y Y2 : T27 → σ → Option (Bool × σ)) (n : T27) (s_ : σ) (hY : ∀ a b, Le (Y a b) (Y2 a b)) : Le (HF41 fu Y n s_) (F41 Y2 n s_) := by
  unfold HF41 F41
  repeat' (with_reducible first | exact hY _ _ | exact leG41 fu _ _ (fun _ _ => by first | exact hY _ _ ) _ | exact le_refl _ | apply le_ite | refine le_bind ?_ (fun _ => ?_))
noncomputable def HF40 (fu : Nat) {σ : Type} (Y : T27 → σ → Option (Bool × σ)) (d0_ : T27) (s_ : σ) : Option σ :=
 (HF41 fu Y d0_ s_ >>= fun r_2 =>
  (some r_2.2))
theorem leF40 (fu : Nat) {σ : Type} (Y Y2 : T27 → σ → Option (Bool × σ)) (d0_ : T27) (s_ : σ) (hY : ∀ a b, Le (Y a b) (Y2 a b)) : Le (HF40 fu Y d0_ s_) (F40 Y2 d0_ s_) := by
  unfold HF40 F40
  repeat' (with_reducible first | exact hY _ _ | exact leF41 fu _ _ _ _ (fun _ _ => by first | exact hY _ _ ) | exact le_refl _ | apply le_ite | refine le_bind ?_ (fun _ => ?_))
noncomputable def HB28_1 (fu : Nat) (t2_ : Int) (t5_ : T27) (x : T27) (zz : Int × Nat) : Option (Bool × (Int × Nat)) := if zz.2 = 0 then
 (if (x.Kind == 6) = true then
  (some (true, (IntKind.wrap .i64 (zz.1 + 1), 0)))
 else
  (some (true, (zz.1, 0))))
else none
theorem leB28_1 (fu : Nat) (t2_ : Int) (t5_ : T27) (x : T27) (zz : Int × Nat) : Le (HB28_1 fu t2_ t5_ x zz) (B28_1 t2_ t5_ x zz) := by
  unfold HB28_1 B28_1
  repeat' (with_reducible first | exact le_refl _ | apply le_ite | refine le_bind ?_ (fun _ => ?_))
noncomputable def HG28 (fu : Nat)  : St28 → Option Int := fun st => match st with
 | .p1 t2_ t5_ k =>
  (HF40 fu (HB28_1 fu t2_ t5_) t5_ (k, 0) >>= fun r_4 =>
   (if r_4.2 = 0 then
    (some r_4.1)
   else
    none))
theorem leG28 (fu : Nat) (st : St28) : Le (HG28 fu st) (G28 st) := by
  unfold HG28 G28
  cases st <;> dsimp only <;> (repeat' (with_reducible first | exact leF40 fu _ _ _ _ (fun _ _ => by first | exact leB28_1 fu _ _ _ _) | exact leB28_1 fu _ _ _ _ | exact le_refl _ | apply le_ite | refine le_bind ?_ (fun _ => ?_)))
noncomputable def HF28 (fu : Nat) (n : T27) : Option Int :=
 (HF29 fu n >>= fun r_2 =>
  (HG28 fu (.p1 0 r_2 0)))
theorem leF28 (fu : Nat) (n : T27) : Le (HF28 fu n) (F28 n) := by
  unfold HF28 F28
  repeat' (with_reducible first | exact leF29 fu _ | exact leG28 fu _ | exact le_refl _ | apply le_ite | refine le_bind ?_ (fun _ => ?_))
noncomputable def HF37 (fu : Nat) (x_ : Int) (q0_ : Int) : Option Int :=
 (some (if 16385 < (IntKind.wrap .i64 (q0_ + x_)) then 16385 else (IntKind.wrap .i64 (q0_ + x_))))
theorem leF37 (fu : Nat) (x_ : Int) (q0_ : Int) : Le (HF37 fu x_ q0_) (F37 x_ q0_) := by
  unfold HF37 F37
  repeat' (with_reducible first | exact le_refl _ | apply le_ite | refine le_bind ?_ (fun _ => ?_))
noncomputable def SG25 (fu : Nat)  (ih : St25 → Option Int) : St25 → Option Int := fun st => match st with
 | .e n =>
  (if (n.Kind == 1) = true then
   (some 0)
  else
   (if (n.Kind == 3) = true then
    (ih (.p1 n 0))
   else
    (if (n.Kind == 4) = true then
     (ih (.p1 n 0))
    else
     (if (n.Kind == 6) = true then
      (ih (.p1 n 0))
     else
      (if (n.Kind == 5) = true then
       (ix (ls n.Kids) 0 >>= fun v_7 =>
        (ih (.e v_7) >>= fun r_9 =>
         (ix (ls n.Kids) 0 >>= fun v_11 =>
          (HF38 fu v_11 >>= fun r_13 =>
           (if (decide (r_13.1 > 0)) = true then
            (ih (.p2 n (if 16385 < (IntKind.wrap .i64 (r_9 + 1)) then 16385 else (IntKind.wrap .i64 (r_9 + 1))) 0))
           else
            (ih (.p2 n r_9 0)))))))
      else
       (HF37 fu 1 0 >>= fun r_16 =>
        (some r_16)))))))
 | .p1 n sum =>
  (ih (.p3 n n.Kids ((ls n.Kids).length : Int) 0 sum))
 | .p2 n round sum =>
  (HF37 fu (IntKind.wrap .i64 (n.Min * round)) sum >>= fun r_18 =>
   (if (n.Max == (-1)) = true then
    (HF37 fu (IntKind.wrap .i64 (round + 4)) r_18 >>= fun r_21 =>
     (some r_21))
   else
    (HF37 fu (IntKind.wrap .i64 ((IntKind.wrap .i64 (n.Max - n.Min)) * (IntKind.wrap .i64 (round + 3)))) r_18 >>= fun r_23 =>
     (some r_23))))
 | .p3 n t22_ t23_ t24_ sum =>
  (if (decide (t24_ < t23_)) = true then
   (ix (ls t22_) t24_ >>= fun v_26 =>
    (ih (.e v_26) >>= fun r_29 =>
     (HF37 fu r_29 sum >>= fun r_31 =>
      (ih (.p3 n t22_ t23_ (IntKind.wrap .i64 (t24_ + 1)) r_31)))))
  else
   (if (n.Kind == 4) = true then
    (HF37 fu (IntKind.wrap .i64 (2 * (IntKind.wrap .i64 (((ls n.Kids).length : Int) - 1)))) sum >>= fun r_34 =>
     (ih (.p4 n r_34)))
   else
    (ih (.p4 n sum))))
 | .p4 n sum =>
  (if (n.Kind == 6) = true then
   (HF37 fu 2 sum >>= fun r_37 =>
    (some r_37))
  else
   (some sum))
noncomputable def HG25 (fu : Nat)  : St25 → Option Int :=
 Nat.rec (motive := fun _ => St25 → Option Int) (fun _ => none) (fun fu ih => SG25 fu ih) fu
theorem HG25_s (fu : Nat)  (st : St25) : HG25 (fu + 1) st = SG25 fu (HG25 fu) st := rfl
theorem leG25 (fu : Nat) (st : St25) : Le (HG25 fu st) (G25 st) := by
  induction fu generalizing st with
  | zero => exact le_none _
  | succ fu ih =>
    cases st
    · rw [HG25_s, G25.eq_1]
      unfold SG25
      dsimp only
      generalize HG25 fu = hh at ih ⊢
      repeat' (with_reducible first | exact ih _ | exact leF38 fu _ | exact leF37 fu _ _ | exact le_refl _ | apply le_ite | refine le_bind ?_ (fun _ => ?_))
    · rw [HG25_s, G25.eq_2]
      unfold SG25
      dsimp only
      generalize HG25 fu = hh at ih ⊢
      repeat' (with_reducible first | exact ih _ | exact leF38 fu _ | exact leF37 fu _ _ | exact le_refl _ | apply le_ite | refine le_bind ?_ (fun _ => ?_))
    · rw [HG25_s, G25.eq_3]
      unfold SG25
      dsimp only
      generalize HG25 fu = hh at ih ⊢
      repeat' (with_reducible first | exact ih _ | exact leF38 fu _ | exact leF37 fu _ _ | exact le_refl _ | apply le_ite | refine le_bind ?_ (fun _ => ?_))
    · rw [HG25_s, G25.eq_4]
      unfold SG25
      dsimp only
      generalize HG25 fu = hh at ih ⊢
      repeat' (with_reducible first | exact ih _ | exact leF38 fu _ | exact leF37 fu _ _ | exact le_refl _ | apply le_ite | refine le_bind ?_ (fun _ => ?_))
    · rw [HG25_s, G25.eq_5]
      unfold SG25
      dsimp only
      generalize HG25 fu = hh at ih ⊢
      repeat' (with_reducible first | exact ih _ | exact leF38 fu _ | exact leF37 fu _ _ | exact le_refl _ | apply le_ite | refine le_bind ?_ (fun _ => ?_))
noncomputable def HF25 (fu : Nat) (n : T27) : Option Int := HG25 fu (.e n)
theorem leF25 (fu : Nat) (n : T27) : Le (HF25 fu n) (F25 n) := by
  unfold HF25 F25
  repeat' (with_reducible first | exact leG25 fu _ | exact le_refl _ | apply le_ite | refine le_bind ?_ (fun _ => ?_))
noncomputable def SG30 (fu : Nat)  (ih : St30 → Option (Bool × Int × Sl Bool)) : St30 → Option (Bool × Int × Sl Bool) := fun st => match st with
 | .e n q0_ q1_ q2_ =>
  (if q0_ = true then
   (HF31 fu n >>= fun r_2 =>
    (ih (.p1 n r_2 q1_ q2_)))
  else
   (ih (.p1 n false q1_ q2_)))
 | .p1 n q0_ q1_ q2_ =>
  (if (!q0_) = true then
   (some (q0_, q1_, q2_))
  else
   (if (n.Kind == 6) = true then
    (if (n.Group == (IntKind.wrap .i64 (q1_ + 1))) = true then
     (ih (.p2 n (decide ((IntKind.wrap .i64 (q1_ + 1)) ≤ 99)) (IntKind.wrap .i64 (q1_ + 1)) q2_))
    else
     (ih (.p2 n false (IntKind.wrap .i64 (q1_ + 1)) q2_)))
   else
    (if (n.Kind == 7) = true then
     (if (decide (n.Group ≥ 1)) = true then
      (if (decide (n.Group ≤ 9)) = true then
       (if (decide (n.Group ≤ q1_)) = true then
        (ix (ls q2_) (IntKind.wrap .i64 (n.Group - 1)) >>= fun v_12 =>
         (ih (.p3 n v_12 q1_ q2_)))
       else
        (ih (.p3 n false q1_ q2_)))
      else
       (ih (.p3 n false q1_ q2_)))
     else
      (ih (.p3 n false q1_ q2_)))
    else
     (ih (.p3 n q0_ q1_ q2_)))))
 | .p2 n q0_ q1_ q2_ =>
  (if ((ls q2_).length + (ls (some ([false] : List Bool))).length) * 1 ≤ 140737488355328 then
   (ih (.p3 n q0_ q1_ (sapp q2_ (ls (some ([false] : List Bool))))))
  else none)
 | .p3 n q0_ q1_ q2_ =>
  (ih (.p4 n ((ls n.Kids).length : Int) 0 q0_ q1_ q2_))
 | .p4 n t71_ t72_ q0_ q1_ q2_ =>
  (if (decide (t72_ < t71_)) = true then
   (if q0_ = true then
    (ix (ls n.Kids) t72_ >>= fun v_20 =>
     (ih (.e v_20 q0_ q1_ q2_) >>= fun r_22 =>
      (ih (.p4 n t71_ (IntKind.wrap .i64 (t72_ + 1)) r_22.1 r_22.2.1 r_22.2.2))))
   else
    (ih (.p4 n t71_ (IntKind.wrap .i64 (t72_ + 1)) q0_ q1_ q2_)))
  else
   (if q0_ = true then
    (if (n.Kind == 6) = true then
     (ix (ls q2_) (IntKind.wrap .i64 (n.Group - 1)) >>= fun v_27 =>
      (some (q0_, q1_, (vset q2_ (IntKind.wrap .i64 (n.Group - 1)) true))))
    else
     (some (q0_, q1_, q2_)))
   else
    (some (q0_, q1_, q2_))))
noncomputable def HG30 (fu : Nat)  : St30 → Option (Bool × Int × Sl Bool) :=
 Nat.rec (motive := fun _ => St30 → Option (Bool × Int × Sl Bool)) (fun _ => none) (fun fu ih => SG30 fu ih) fu
theorem HG30_s (fu : Nat)  (st : St30) : HG30 (fu + 1) st = SG30 fu (HG30 fu) st := rfl
theorem leG30 (fu : Nat) (st : St30) : Le (HG30 fu st) (G30 st) := by
  induction fu generalizing st with
  | zero => exact le_none _
  | succ fu ih =>
    cases st
    · rw [HG30_s, G30.eq_1]
      unfold SG30
      dsimp only
      generalize HG30 fu = hh at ih ⊢
      repeat' (with_reducible first | exact ih _ | exact leF31 fu _ | exact le_refl _ | apply le_ite | refine le_bind ?_ (fun _ => ?_))
    · rw [HG30_s, G30.eq_2]
      unfold SG30
      dsimp only
      generalize HG30 fu = hh at ih ⊢
      repeat' (with_reducible first | exact ih _ | exact leF31 fu _ | exact le_refl _ | apply le_ite | refine le_bind ?_ (fun _ => ?_))
    · rw [HG30_s, G30.eq_3]
      unfold SG30
      dsimp only
      generalize HG30 fu = hh at ih ⊢
      repeat' (with_reducible first | exact ih _ | exact leF31 fu _ | exact le_refl _ | apply le_ite | refine le_bind ?_ (fun _ => ?_))
    · rw [HG30_s, G30.eq_4]
      unfold SG30
      dsimp only
      generalize HG30 fu = hh at ih ⊢
      repeat' (with_reducible first | exact ih _ | exact leF31 fu _ | exact le_refl _ | apply le_ite | refine le_bind ?_ (fun _ => ?_))
    · rw [HG30_s, G30.eq_5]
      unfold SG30
      dsimp only
      generalize HG30 fu = hh at ih ⊢
      repeat' (with_reducible first | exact ih _ | exact leF31 fu _ | exact le_refl _ | apply le_ite | refine le_bind ?_ (fun _ => ?_))
noncomputable def HF30 (fu : Nat) (n : T27) (q0_ : Bool) (q1_ : Int) (q2_ : Sl Bool) : Option (Bool × Int × Sl Bool) := HG30 fu (.e n q0_ q1_ q2_)
theorem leF30 (fu : Nat) (n : T27) (q0_ : Bool) (q1_ : Int) (q2_ : Sl Bool) : Le (HF30 fu n q0_ q1_ q2_) (F30 n q0_ q1_ q2_) := by
  unfold HF30 F30
  repeat' (with_reducible first | exact leG30 fu _ | exact le_refl _ | apply le_ite | refine le_bind ?_ (fun _ => ?_))
noncomputable def HB12_1 (fu : Nat) (n : T27) (t8_ : T27) (x : T27) (zz : Int × Int × Nat) : Option (Bool × (Int × Int × Nat)) := if zz.2.2 = 0 then
 (if (decide ((IntKind.wrap .i64 (zz.2.1 + 1)) > 8192)) = true then
  (some (false, (3, IntKind.wrap .i64 (zz.2.1 + 1), 1)))
 else
  (some (true, (zz.1, IntKind.wrap .i64 (zz.2.1 + 1), 0))))
else none
theorem leB12_1 (fu : Nat) (n : T27) (t8_ : T27) (x : T27) (zz : Int × Int × Nat) : Le (HB12_1 fu n t8_ x zz) (B12_1 n t8_ x zz) := by
  unfold HB12_1 B12_1
  repeat' (with_reducible first | exact le_refl _ | apply le_ite | refine le_bind ?_ (fun _ => ?_))
noncomputable def HG12 (fu : Nat)  : St12 → Option Int := fun st => match st with
 | .p1 n t8_ t2_ count =>
  (HF40 fu (HB12_1 fu n t8_) t8_ (t2_, count, 0) >>= fun r_5 =>
   (if r_5.2.2 = 0 then
    (HF30 fu n true 0 (none : Sl Bool) >>= fun r_12 =>
     (if (!r_12.1) = true then
      (some 90)
     else
      (some 0)))
   else
    (if r_5.2.2 = 1 then
     (some r_5.1)
    else
     none)))
theorem leG12 (fu : Nat) (st : St12) : Le (HG12 fu st) (G12 st) := by
  unfold HG12 G12
  cases st <;> dsimp only <;> (repeat' (with_reducible first | exact leF40 fu _ _ _ _ (fun _ _ => by first | exact leB12_1 fu _ _ _ _) | exact leB12_1 fu _ _ _ _ | exact leF30 fu _ _ _ _ | exact le_refl _ | apply le_ite | refine le_bind ?_ (fun _ => ?_)))
noncomputable def HF12 (fu : Nat) (n : T27) : Option Int :=
 (HF29 fu n >>= fun r_3 =>
  (HG12 fu (.p1 n r_3 0 0)))
theorem leF12 (fu : Nat) (n : T27) : Le (HF12 fu n) (F12 n) := by
  unfold HF12 F12
  repeat' (with_reducible first | exact leF29 fu _ | exact leG12 fu _ | exact le_refl _ | apply le_ite | refine le_bind ?_ (fun _ => ?_))
noncomputable def HF27 (fu : Nat) (c : T65) (x_ : T52) : Option (Int × T65) :=
 (if ((ls c.code).length + (ls (some ([x_] : List T52))).length) * 72 ≤ 140737488355328 then
  (some (IntKind.wrap .i64 (((ls (sapp c.code (ls (some ([x_] : List T52))))).length : Int) - 1), ({ c with code := sapp c.code (ls (some ([x_] : List T52))) } : T65)))
 else none)
theorem leF27 (fu : Nat) (c : T65) (x_ : T52) : Le (HF27 fu c x_) (F27 c x_) := by
  unfold HF27 F27
  repeat' (with_reducible first | exact le_refl _ | apply le_ite | refine le_bind ?_ (fun _ => ?_))
noncomputable def HF58 (fu : Nat) (s : T92) (i : Int) : Option (Bool × T92) :=
 (ix (ls s.in_) i >>= fun v_3 =>
  (if v_3 = true then
   (some (false, s))
  else
   (ix (ls s.in_) i >>= fun v_6 =>
    (if ((ls s.list).length + (ls (some ([i] : List Int))).length) * 8 ≤ 140737488355328 then
     (some (true, ({ s with in_ := (vset s.in_ i true), list := sapp s.list (ls (some ([i] : List Int))) } : T92)))
    else none))))
theorem leF58 (fu : Nat) (s : T92) (i : Int) : Le (HF58 fu s i) (F58 s i) := by
  unfold HF58 F58
  repeat' (with_reducible first | exact le_refl _ | apply le_ite | refine le_bind ?_ (fun _ => ?_))
noncomputable def HF9 (fu : Nat) (n : T27) : Option (Int × Int) :=
 (HF12 fu n >>= fun r_1 =>
  (if (r_1 != 0) = true then
   (some (0, r_1))
  else
   (HF25 fu n >>= fun r_4 =>
    (if (decide (r_4 < 16384)) = true then
     (some (IntKind.wrap .i64 (r_4 + 1), 0))
    else
     (some (0, 3))))))
theorem leF9 (fu : Nat) (n : T27) : Le (HF9 fu n) (F9 n) := by
  unfold HF9 F9
  repeat' (with_reducible first | exact leF12 fu _ | exact leF25 fu _ | exact le_refl _ | apply le_ite | refine le_bind ?_ (fun _ => ?_))
noncomputable def HF39 (fu : Nat)  : Option Unit :=
 (some ())
theorem leF39 (fu : Nat)  : Le (HF39 fu ) (F39 ) := by
  unfold HF39 F39
  repeat' (with_reducible first | exact le_refl _ | apply le_ite | refine le_bind ?_ (fun _ => ?_))
noncomputable def HF46 (fu : Nat) (c : T65) (n : T27) : Option T65 :=
 (some c)
theorem leF46 (fu : Nat) (c : T65) (n : T27) : Le (HF46 fu c n) (F46 c n) := by
  unfold HF46 F46
  repeat' (with_reducible first | exact le_refl _ | apply le_ite | refine le_bind ?_ (fun _ => ?_))
noncomputable def HF47 (fu : Nat) (c : T65) (n : T27) : Option T65 :=
 (HF27 fu c ({ Kind := 1, Set := n.Set, To := 0, Group := 0, Last := 0, Slot := 0 } : T52) >>= fun r_1 =>
  (some r_1.2))
theorem leF47 (fu : Nat) (c : T65) (n : T27) : Le (HF47 fu c n) (F47 c n) := by
  unfold HF47 F47
  repeat' (with_reducible first | exact leF27 fu _ _ | exact le_refl _ | apply le_ite | refine le_bind ?_ (fun _ => ?_))
noncomputable def HF48 (fu : Nat) (c : T65) (n : T27) : Option T65 :=
 (HF27 fu c ({ Kind := 10, Set := (Arr.rep 4 0), To := 0, Group := 0, Last := 0, Slot := 0 } : T52) >>= fun r_1 =>
  (some r_1.2))
theorem leF48 (fu : Nat) (c : T65) (n : T27) : Le (HF48 fu c n) (F48 c n) := by
  unfold HF48 F48
  repeat' (with_reducible first | exact leF27 fu _ _ | exact le_refl _ | apply le_ite | refine le_bind ?_ (fun _ => ?_))
noncomputable def HF49 (fu : Nat) (c : T65) (n : T27) : Option T65 :=
 (HF27 fu c ({ Kind := 11, Set := (Arr.rep 4 0), To := 0, Group := 0, Last := 0, Slot := 0 } : T52) >>= fun r_1 =>
  (some r_1.2))
theorem leF49 (fu : Nat) (c : T65) (n : T27) : Le (HF49 fu c n) (F49 c n) := by
  unfold HF49 F49
  repeat' (with_reducible first | exact leF27 fu _ _ | exact le_refl _ | apply le_ite | refine le_bind ?_ (fun _ => ?_))
noncomputable def HF50 (fu : Nat) (c : T65) (n : T27) : Option T65 :=
 (HF27 fu c ({ Kind := 9, Set := (Arr.rep 4 0), To := 0, Group := n.Group, Last := 0, Slot := 0 } : T52) >>= fun r_1 =>
  (some r_1.2))
theorem leF50 (fu : Nat) (c : T65) (n : T27) : Le (HF50 fu c n) (F50 c n) := by
  unfold HF50 F50
  repeat' (with_reducible first | exact leF27 fu _ _ | exact le_refl _ | apply le_ite | refine le_bind ?_ (fun _ => ?_))
noncomputable def SG26r (fu : Nat)  (ih : St26r → Option T65) : St26r → Option T65 := fun st => match st with
 | .e26 c n =>
  (HF39 fu >>= fun r_1 =>
   (if n.Kind = 1 then
    (HF46 fu c n >>= fun r_28 =>
     (some r_28))
   else
    (if n.Kind = 2 then
     (HF47 fu c n >>= fun r_25 =>
      (some r_25))
    else
     (if n.Kind = 3 then
      (ih (.e51 c n) >>= fun r_22 =>
       (some r_22))
     else
      (if n.Kind = 4 then
       (ih (.e53 c n) >>= fun r_19 =>
        (some r_19))
      else
       (if n.Kind = 5 then
        (ih (.e54 c n) >>= fun r_16 =>
         (some r_16))
       else
        (if n.Kind = 6 then
         (ih (.e52 c n) >>= fun r_13 =>
          (some r_13))
        else
         (if n.Kind = 7 then
          (HF50 fu c n >>= fun r_10 =>
           (some r_10))
         else
          (if n.Kind = 8 then
           (HF48 fu c n >>= fun r_7 =>
            (some r_7))
          else
           (if n.Kind = 9 then
            (HF49 fu c n >>= fun r_4 =>
             (some r_4))
           else
            none))))))))))
 | .e51 c n =>
  (ih (.p51_1 n.Kids ((ls n.Kids).length : Int) 0 c))
 | .p51_1 t7_ t8_ t9_ c =>
  (if (decide (t9_ < t8_)) = true then
   (ix (ls t7_) t9_ >>= fun v_2 =>
    (ih (.e26 c v_2) >>= fun r_5 =>
     (ih (.p51_1 t7_ t8_ (IntKind.wrap .i64 (t9_ + 1)) r_5))))
  else
   (some c))
 | .e52 c n =>
  (HF27 fu c ({ Kind := 4, Set := (Arr.rep 4 0), To := 0, Group := n.Group, Last := 0, Slot := 0 } : T52) >>= fun r_1 =>
   (ix (ls n.Kids) 0 >>= fun v_3 =>
    (ih (.e26 r_1.2 v_3) >>= fun r_5 =>
     (HF27 fu r_5 ({ Kind := 5, Set := (Arr.rep 4 0), To := 0, Group := n.Group, Last := 0, Slot := 0 } : T52) >>= fun r_7 =>
      (some r_7.2)))))
 | .e53 c n =>
  (scut n.Kids 0 (IntKind.wrap .i64 (((ls n.Kids).length : Int) - 1)) >>= fun w_1 =>
   (ih (.p53_1 n (IntKind.wrap .i64 (((ls n.Kids).length : Int) - 1)) w_1 ((ls w_1).length : Int) 0 c none)))
 | .p53_1 n last t18_ t19_ t20_ c out =>
  (if (decide (t20_ < t19_)) = true then
   (ix (ls t18_) t20_ >>= fun v_5 =>
    (HF27 fu c ({ Kind := 2, Set := (Arr.rep 4 0), To := 0, Group := 0, Last := 0, Slot := 0 } : T52) >>= fun r_8 =>
     (ih (.e26 r_8.2 v_5) >>= fun r_10 =>
      (HF27 fu r_10 ({ Kind := 3, Set := (Arr.rep 4 0), To := 0, Group := 0, Last := 0, Slot := 0 } : T52) >>= fun r_12 =>
       (if ((ls out).length + (ls (some ([r_12.1] : List Int))).length) * 8 ≤ 140737488355328 then
        (ix (ls r_12.2.code) r_8.1 >>= fun v_18 =>
         (ih (.p53_1 n last t18_ t19_ (IntKind.wrap .i64 (t20_ + 1)) ({ r_12.2 with code := (vset r_12.2.code r_8.1 ({ v_18 with To := ((ls r_12.2.code).length : Int) } : T52)) } : T65) (sapp out (ls (some ([r_12.1] : List Int)))))))
       else none)))))
  else
   (ix (ls n.Kids) last >>= fun v_20 =>
    (ih (.e26 c v_20) >>= fun r_22 =>
     (ih (.p53_2 out ((ls out).length : Int) 0 r_22)))))
 | .p53_2 t56_ t57_ t58_ c =>
  (if (decide (t58_ < t57_)) = true then
   (ix (ls t56_) t58_ >>= fun v_25 =>
    (ix (ls c.code) v_25 >>= fun v_28 =>
     (ih (.p53_2 t56_ t57_ (IntKind.wrap .i64 (t58_ + 1)) ({ c with code := (vset c.code v_25 ({ v_28 with To := ((ls c.code).length : Int) } : T52)) } : T65)))))
  else
   (some c))
 | .e54 c n =>
  (ih (.p54_1 n n.Min 0 c))
 | .p54_1 n t10_ t11_ c =>
  (if (decide (t11_ < t10_)) = true then
   (ix (ls n.Kids) 0 >>= fun v_3 =>
    (ih (.e59 c v_3 false) >>= fun r_5 =>
     (if (((ls r_5.code).length : Int) == ((ls c.code).length : Int)) = true then
      (ih (.p54_2 n r_5))
     else
      (ih (.p54_1 n t10_ (IntKind.wrap .i64 (t11_ + 1)) r_5)))))
  else
   (ih (.p54_2 n c)))
 | .p54_2 n c =>
  (if (n.Max == (-1)) = true then
   (HF27 fu c ({ Kind := 2, Set := (Arr.rep 4 0), To := 0, Group := 0, Last := 0, Slot := 0 } : T52) >>= fun r_10 =>
    (ix (ls n.Kids) 0 >>= fun v_12 =>
     (ih (.e59 r_10.2 v_12 true) >>= fun r_14 =>
      (HF27 fu r_14 ({ Kind := 3, Set := (Arr.rep 4 0), To := r_10.1, Group := 0, Last := 0, Slot := 0 } : T52) >>= fun r_16 =>
       (ix (ls r_16.2.code) r_10.1 >>= fun v_19 =>
        (some ({ r_16.2 with code := (vset r_16.2.code r_10.1 ({ v_19 with To := ((ls r_16.2.code).length : Int) } : T52)) } : T65)))))))
  else
   (ih (.p54_3 n (IntKind.wrap .i64 (n.Max - n.Min)) 0 c none)))
 | .p54_3 n t64_ t65_ c out =>
  (if (decide (t65_ < t64_)) = true then
   (HF27 fu c ({ Kind := 2, Set := (Arr.rep 4 0), To := 0, Group := 0, Last := 0, Slot := 0 } : T52) >>= fun r_23 =>
    (if ((ls out).length + (ls (some ([r_23.1] : List Int))).length) * 8 ≤ 140737488355328 then
     (ix (ls n.Kids) 0 >>= fun v_28 =>
      (ih (.e59 r_23.2 v_28 true) >>= fun r_30 =>
       (ih (.p54_3 n t64_ (IntKind.wrap .i64 (t65_ + 1)) r_30 (sapp out (ls (some ([r_23.1] : List Int))))))))
    else none))
  else
   (ih (.p54_4 out ((ls out).length : Int) 0 c)))
 | .p54_4 t80_ t81_ t82_ c =>
  (if (decide (t82_ < t81_)) = true then
   (ix (ls t80_) t82_ >>= fun v_33 =>
    (ix (ls c.code) v_33 >>= fun v_36 =>
     (ih (.p54_4 t80_ t81_ (IntKind.wrap .i64 (t82_ + 1)) ({ c with code := (vset c.code v_33 ({ v_36 with To := ((ls c.code).length : Int) } : T52)) } : T65)))))
  else
   (some c))
 | .e59 c n free =>
  (if free = true then
   (HF27 fu c ({ Kind := 7, Set := (Arr.rep 4 0), To := 0, Group := 0, Last := 0, Slot := c.free } : T52) >>= fun r_3 =>
    (ih (.p59_1 free n c.free ({ r_3.2 with free := IntKind.wrap .i64 (r_3.2.free + 1), slots := (if (IntKind.wrap .i64 (r_3.2.free + 1)) > r_3.2.slots then (IntKind.wrap .i64 (r_3.2.free + 1)) else r_3.2.slots) } : T65))))
  else
   (ih (.p59_1 free n c.free c)))
 | .p59_1 free n slot c =>
  (HF38 fu n >>= fun r_6 =>
   (if (decide (r_6.1 > 0)) = true then
    (HF27 fu c ({ Kind := 6, Set := (Arr.rep 4 0), To := 0, Group := r_6.1, Last := r_6.2, Slot := 0 } : T52) >>= fun r_9 =>
     (ih (.p59_2 free n slot r_9.2)))
   else
    (ih (.p59_2 free n slot c))))
 | .p59_2 free n slot c =>
  (ih (.e26 c n) >>= fun r_11 =>
   (if free = true then
    (HF27 fu ({ r_11 with free := IntKind.wrap .i64 (r_11.free - 1) } : T65) ({ Kind := 8, Set := (Arr.rep 4 0), To := 0, Group := 0, Last := 0, Slot := slot } : T52) >>= fun r_15 =>
     (some r_15.2))
   else
    (some r_11)))
noncomputable def HG26r (fu : Nat)  : St26r → Option T65 :=
 Nat.rec (motive := fun _ => St26r → Option T65) (fun _ => none) (fun fu ih => SG26r fu ih) fu
theorem HG26r_s (fu : Nat)  (st : St26r) : HG26r (fu + 1) st = SG26r fu (HG26r fu) st := rfl
theorem leG26r (fu : Nat) (st : St26r) : Le (HG26r fu st) (G26r st) := by
  induction fu generalizing st with
  | zero => exact le_none _
  | succ fu ih =>
    cases st
    · rw [HG26r_s, G26r.eq_1]
      unfold SG26r
      dsimp only
      generalize HG26r fu = hh at ih ⊢
      repeat' (with_reducible first | exact ih _ | exact leF39 fu | exact leF46 fu _ _ | exact leF47 fu _ _ | exact leF50 fu _ _ | exact leF48 fu _ _ | exact leF49 fu _ _ | exact leF27 fu _ _ | exact leF38 fu _ | exact le_refl _ | apply le_ite | refine le_bind ?_ (fun _ => ?_))
    · rw [HG26r_s, G26r.eq_2]
      unfold SG26r
      dsimp only
      generalize HG26r fu = hh at ih ⊢
      repeat' (with_reducible first | exact ih _ | exact leF39 fu | exact leF46 fu _ _ | exact leF47 fu _ _ | exact leF50 fu _ _ | exact leF48 fu _ _ | exact leF49 fu _ _ | exact leF27 fu _ _ | exact leF38 fu _ | exact le_refl _ | apply le_ite | refine le_bind ?_ (fun _ => ?_))
    · rw [HG26r_s, G26r.eq_3]
      unfold SG26r
      dsimp only
      generalize HG26r fu = hh at ih ⊢
      repeat' (with_reducible first | exact ih _ | exact leF39 fu | exact leF46 fu _ _ | exact leF47 fu _ _ | exact leF50 fu _ _ | exact leF48 fu _ _ | exact leF49 fu _ _ | exact leF27 fu _ _ | exact leF38 fu _ | exact le_refl _ | apply le_ite | refine le_bind ?_ (fun _ => ?_))
    · rw [HG26r_s, G26r.eq_4]
      unfold SG26r
      dsimp only
      generalize HG26r fu = hh at ih ⊢
      repeat' (with_reducible first | exact ih _ | exact leF39 fu | exact leF46 fu _ _ | exact leF47 fu _ _ | exact leF50 fu _ _ | exact leF48 fu _ _ | exact leF49 fu _ _ | exact leF27 fu _ _ | exact leF38 fu _ | exact le_refl _ | apply le_ite | refine le_bind ?_ (fun _ => ?_))
    · rw [HG26r_s, G26r.eq_5]
      unfold SG26r
      dsimp only
      generalize HG26r fu = hh at ih ⊢
      repeat' (with_reducible first | exact ih _ | exact leF39 fu | exact leF46 fu _ _ | exact leF47 fu _ _ | exact leF50 fu _ _ | exact leF48 fu _ _ | exact leF49 fu _ _ | exact leF27 fu _ _ | exact leF38 fu _ | exact le_refl _ | apply le_ite | refine le_bind ?_ (fun _ => ?_))
    · rw [HG26r_s, G26r.eq_6]
      unfold SG26r
      dsimp only
      generalize HG26r fu = hh at ih ⊢
      repeat' (with_reducible first | exact ih _ | exact leF39 fu | exact leF46 fu _ _ | exact leF47 fu _ _ | exact leF50 fu _ _ | exact leF48 fu _ _ | exact leF49 fu _ _ | exact leF27 fu _ _ | exact leF38 fu _ | exact le_refl _ | apply le_ite | refine le_bind ?_ (fun _ => ?_))
    · rw [HG26r_s, G26r.eq_7]
      unfold SG26r
      dsimp only
      generalize HG26r fu = hh at ih ⊢
      repeat' (with_reducible first | exact ih _ | exact leF39 fu | exact leF46 fu _ _ | exact leF47 fu _ _ | exact leF50 fu _ _ | exact leF48 fu _ _ | exact leF49 fu _ _ | exact leF27 fu _ _ | exact leF38 fu _ | exact le_refl _ | apply le_ite | refine le_bind ?_ (fun _ => ?_))
    · rw [HG26r_s, G26r.eq_8]
      unfold SG26r
      dsimp only
      generalize HG26r fu = hh at ih ⊢
      repeat' (with_reducible first | exact ih _ | exact leF39 fu | exact leF46 fu _ _ | exact leF47 fu _ _ | exact leF50 fu _ _ | exact leF48 fu _ _ | exact leF49 fu _ _ | exact leF27 fu _ _ | exact leF38 fu _ | exact le_refl _ | apply le_ite | refine le_bind ?_ (fun _ => ?_))
    · rw [HG26r_s, G26r.eq_9]
      unfold SG26r
      dsimp only
      generalize HG26r fu = hh at ih ⊢
      repeat' (with_reducible first | exact ih _ | exact leF39 fu | exact leF46 fu _ _ | exact leF47 fu _ _ | exact leF50 fu _ _ | exact leF48 fu _ _ | exact leF49 fu _ _ | exact leF27 fu _ _ | exact leF38 fu _ | exact le_refl _ | apply le_ite | refine le_bind ?_ (fun _ => ?_))
    · rw [HG26r_s, G26r.eq_10]
      unfold SG26r
      dsimp only
      generalize HG26r fu = hh at ih ⊢
      repeat' (with_reducible first | exact ih _ | exact leF39 fu | exact leF46 fu _ _ | exact leF47 fu _ _ | exact leF50 fu _ _ | exact leF48 fu _ _ | exact leF49 fu _ _ | exact leF27 fu _ _ | exact leF38 fu _ | exact le_refl _ | apply le_ite | refine le_bind ?_ (fun _ => ?_))
    · rw [HG26r_s, G26r.eq_11]
      unfold SG26r
      dsimp only
      generalize HG26r fu = hh at ih ⊢
      repeat' (with_reducible first | exact ih _ | exact leF39 fu | exact leF46 fu _ _ | exact leF47 fu _ _ | exact leF50 fu _ _ | exact leF48 fu _ _ | exact leF49 fu _ _ | exact leF27 fu _ _ | exact leF38 fu _ | exact le_refl _ | apply le_ite | refine le_bind ?_ (fun _ => ?_))
    · rw [HG26r_s, G26r.eq_12]
      unfold SG26r
      dsimp only
      generalize HG26r fu = hh at ih ⊢
      repeat' (with_reducible first | exact ih _ | exact leF39 fu | exact leF46 fu _ _ | exact leF47 fu _ _ | exact leF50 fu _ _ | exact leF48 fu _ _ | exact leF49 fu _ _ | exact leF27 fu _ _ | exact leF38 fu _ | exact le_refl _ | apply le_ite | refine le_bind ?_ (fun _ => ?_))
    · rw [HG26r_s, G26r.eq_13]
      unfold SG26r
      dsimp only
      generalize HG26r fu = hh at ih ⊢
      repeat' (with_reducible first | exact ih _ | exact leF39 fu | exact leF46 fu _ _ | exact leF47 fu _ _ | exact leF50 fu _ _ | exact leF48 fu _ _ | exact leF49 fu _ _ | exact leF27 fu _ _ | exact leF38 fu _ | exact le_refl _ | apply le_ite | refine le_bind ?_ (fun _ => ?_))
    · rw [HG26r_s, G26r.eq_14]
      unfold SG26r
      dsimp only
      generalize HG26r fu = hh at ih ⊢
      repeat' (with_reducible first | exact ih _ | exact leF39 fu | exact leF46 fu _ _ | exact leF47 fu _ _ | exact leF50 fu _ _ | exact leF48 fu _ _ | exact leF49 fu _ _ | exact leF27 fu _ _ | exact leF38 fu _ | exact le_refl _ | apply le_ite | refine le_bind ?_ (fun _ => ?_))
    · rw [HG26r_s, G26r.eq_15]
      unfold SG26r
      dsimp only
      generalize HG26r fu = hh at ih ⊢
      repeat' (with_reducible first | exact ih _ | exact leF39 fu | exact leF46 fu _ _ | exact leF47 fu _ _ | exact leF50 fu _ _ | exact leF48 fu _ _ | exact leF49 fu _ _ | exact leF27 fu _ _ | exact leF38 fu _ | exact le_refl _ | apply le_ite | refine le_bind ?_ (fun _ => ?_))
noncomputable def HF26 (fu : Nat) (c : T65) (n : T27) : Option T65 := HG26r fu (.e26 c n)
theorem leF26 (fu : Nat) (c : T65) (n : T27) : Le (HF26 fu c n) (F26 c n) := by
  unfold HF26 F26
  repeat' (with_reducible first | exact leG26r fu _ | exact le_refl _ | apply le_ite | refine le_bind ?_ (fun _ => ?_))
noncomputable def HF10 (fu : Nat) (n : T27) : Option (T34 × Int) :=
 (HF9 fu n >>= fun r_2 =>
  (if (r_2.2 != 0) = true then
   (some (({ Groups := 0, Slots := 0, Code := none } : T34), r_2.2))
  else
   (HF26 fu ({ code := (none : Sl T52), slots := 0, free := 0 } : T65) n >>= fun r_7 =>
    (HF27 fu r_7 ({ Kind := 12, Set := (Arr.rep 4 0), To := 0, Group := 0, Last := 0, Slot := 0 } : T52) >>= fun r_9 =>
     (HF28 fu n >>= fun r_12 =>
      (some (({ Groups := r_12, Slots := r_9.2.slots, Code := r_9.2.code } : T34), 0)))))))
theorem leF10 (fu : Nat) (n : T27) : Le (HF10 fu n) (F10 n) := by
  unfold HF10 F10
  repeat' (with_reducible first | exact leF9 fu _ | exact leF26 fu _ _ | exact leF27 fu _ _ | exact leF28 fu _ | exact le_refl _ | apply le_ite | refine le_bind ?_ (fun _ => ?_))
noncomputable def HF44 (fu : Nat) (s : Arr 4 Int) (c : Int) : Option Bool :=
 (if (0 : Int) ≤ (IntKind.wrap .u8 (Int.tdiv c 64)) ∧ (IntKind.wrap .u8 (Int.tdiv c 64)) < (4 : Int) then
  (ix s.l (IntKind.wrap .u8 (Int.tdiv c 64)) >>= fun v_2 =>
   (if 0 ≤ (Int.tmod c 64) then
    (some ((andI .u64 (shrI .u64 v_2 (Int.tmod c 64)) 1) == 1))
   else none))
 else none)
theorem leF44 (fu : Nat) (s : Arr 4 Int) (c : Int) : Le (HF44 fu s c) (F44 s c) := by
  unfold HF44 F44
  repeat' (with_reducible first | exact le_refl _ | apply le_ite | refine le_bind ?_ (fun _ => ?_))
noncomputable def HF43 (fu : Nat) (p : T34) (text : Str) (place : Int) (from_ : Sl Int) : Option (T34 × Sl Int × Int × Str) :=
 (some (p, from_, place, text))
theorem leF43 (fu : Nat) (p : T34) (text : Str) (place : Int) (from_ : Sl Int) : Le (HF43 fu p text place from_) (F43 p text place from_) := by
  unfold HF43 F43
  repeat' (with_reducible first | exact le_refl _ | apply le_ite | refine le_bind ?_ (fun _ => ?_))
noncomputable def SG57 (fu : Nat) {σ : Type} (Y : Int → σ → Option (Bool × σ)) (ih : St57 σ → Option σ) : St57 σ → Option σ := fun st => match st with
 | .p1 t1_ t3_ t4_ t18_ t19_ t20_ s_ s =>
  (if (decide (t20_ < t19_)) = true then
   (ix (ls t18_) t20_ >>= fun v_6 =>
    (HF58 fu s v_6 >>= fun r_8 =>
     (ih (.p1 t1_ t3_ t4_ t18_ t19_ (IntKind.wrap .i64 (t20_ + 1)) s_ r_8.2))))
  else
   (ih (.p2 t1_ t3_ t4_ 0 s_ s)))
 | .p2 t1_ t3_ t4_ k s_ s =>
  (if (decide (k < ((ls s.list).length : Int))) = true then
   (ix (ls s.list) k >>= fun v_13 =>
    (Y v_13 s_ >>= fun r_15 =>
     (if (!r_15.1) = true then
      (some r_15.2)
     else
      (ix (ls t1_.Code) v_13 >>= fun v_18 =>
       (if (v_18.Kind == 1) = true then
        (ih (.p2 t1_ t3_ t4_ (IntKind.wrap .i64 (k + 1)) r_15.2 s))
       else
        (if (v_18.Kind == 12) = true then
         (ih (.p2 t1_ t3_ t4_ (IntKind.wrap .i64 (k + 1)) r_15.2 s))
        else
         (if (v_18.Kind == 2) = true then
          (HF58 fu s (IntKind.wrap .i64 (v_13 + 1)) >>= fun r_24 =>
           (HF58 fu r_24.2 v_18.To >>= fun r_26 =>
            (ih (.p2 t1_ t3_ t4_ (IntKind.wrap .i64 (k + 1)) r_15.2 r_26.2))))
         else
          (if (v_18.Kind == 3) = true then
           (HF58 fu s v_18.To >>= fun r_29 =>
            (ih (.p2 t1_ t3_ t4_ (IntKind.wrap .i64 (k + 1)) r_15.2 r_29.2)))
          else
           (if (v_18.Kind == 10) = true then
            (if (t3_ == 0) = true then
             (HF58 fu s (IntKind.wrap .i64 (v_13 + 1)) >>= fun r_33 =>
              (ih (.p2 t1_ t3_ t4_ (IntKind.wrap .i64 (k + 1)) r_15.2 r_33.2)))
            else
             (ih (.p2 t1_ t3_ t4_ (IntKind.wrap .i64 (k + 1)) r_15.2 s)))
           else
            (if (v_18.Kind == 11) = true then
             (if (t3_ == ((t4_).length : Int)) = true then
              (HF58 fu s (IntKind.wrap .i64 (v_13 + 1)) >>= fun r_37 =>
               (ih (.p2 t1_ t3_ t4_ (IntKind.wrap .i64 (k + 1)) r_15.2 r_37.2)))
             else
              (ih (.p2 t1_ t3_ t4_ (IntKind.wrap .i64 (k + 1)) r_15.2 s)))
            else
             (HF58 fu s (IntKind.wrap .i64 (v_13 + 1)) >>= fun r_39 =>
              (ih (.p2 t1_ t3_ t4_ (IntKind.wrap .i64 (k + 1)) r_15.2 r_39.2)))))))))))))
  else
   (some s_))
noncomputable def HG57 (fu : Nat) {σ : Type} (Y : Int → σ → Option (Bool × σ)) : St57 σ → Option σ :=
 Nat.rec (motive := fun _ => St57 σ → Option σ) (fun _ => none) (fun fu ih => SG57 fu Y ih) fu
theorem HG57_s (fu : Nat) {σ : Type} (Y : Int → σ → Option (Bool × σ)) (st : St57 σ) : HG57 (fu + 1) Y st = SG57 fu Y (HG57 fu Y) st := rfl
theorem leG57 (fu : Nat) {σ : Type} (Y Y2 : Int → σ → Option (Bool × σ)) (hY : ∀ a b, Le (Y a b) (Y2 a b)) (st : St57 σ) : Le (HG57 fu Y st) (G57 Y2 st) := by
  induction fu generalizing st with
  | zero => exact le_none _
  | succ fu ih =>
    cases st
    · rw [HG57_s, G57.eq_1]
      unfold SG57
      dsimp only
      generalize HG57 fu Y = hh at ih ⊢
      repeat' (with_reducible first | exact ih _ | exact hY _ _ | exact leF58 fu _ _ | exact le_refl _ | apply le_ite | refine le_bind ?_ (fun _ => ?_))
    · rw [HG57_s, G57.eq_2]
      unfold SG57
      dsimp only
      generalize HG57 fu Y = hh at ih ⊢
      repeat' (with_reducible first | exact ih _ | exact hY _ _ | exact leF58 fu _ _ | exact le_refl _ | apply le_ite | refine le_bind ?_ (fun _ => ?_))
noncomputable def HF57 (fu : Nat) {σ : Type} (Y : Int → σ → Option (Bool × σ)) (d0_ : T34) (d1_ : Sl Int) (d2_ : Int) (d3_ : Str) (s_ : σ) : Option σ :=
 (if 0 ≤ ((ls d0_.Code).length : Int) ∧ ((ls d0_.Code).length : Int) = ((ls d0_.Code).length : Int) ∧ (1 : Int) * ((ls d0_.Code).length : Int) ≤ 281474976710656 then
  (HG57 fu Y (.p1 d0_ d2_ d3_ d1_ ((ls d1_).length : Int) 0 s_ ({ in_ := (some (List.replicate (Int.toNat ((ls d0_.Code).length : Int)) (false : Bool))), list := (none : Sl Int) } : T92)))
 else none)
theorem leF57 (fu : Nat) {σ : Type} (Y Y2 : Int → σ → Option (Bool × σ)) (d0_ : T34) (d1_ : Sl Int) (d2_ : Int) (d3_ : Str) (s_ : σ) (hY : ∀ a b, Le (Y a b) (Y2 a b)) : Le (HF57 fu Y d0_ d1_ d2_ d3_ s_) (F57 Y2 d0_ d1_ d2_ d3_ s_) := by
  unfold HF57 F57
  repeat' (with_reducible first | exact hY _ _ | exact leG57 fu _ _ (fun _ _ => by first | exact hY _ _ ) _ | exact le_refl _ | apply le_ite | refine le_bind ?_ (fun _ => ?_))
noncomputable def HB33_1 (fu : Nat) (p : T34) (s : Str) (t6_ : Sl Int) (now : Sl Int) (t24_ : T34) (t24_2 : Sl Int) (t24_3 : Int) (t24_4 : Str) (x : Int) (zz : (Sl Int) × Int × (Sl Int) × Nat) : Option (Bool × ((Sl Int) × Int × (Sl Int) × Nat)) := if zz.2.2.2 = 0 then
 (ix (ls p.Code) x >>= fun v_1 =>
  (if (v_1.Kind == 12) = true then
   (if ((ls zz.1).length + (ls (some ([zz.2.1] : List Int))).length) * 8 ≤ 140737488355328 then
    (some (true, (sapp zz.1 (ls (some ([zz.2.1] : List Int))), zz.2.1, zz.2.2.1, 0)))
   else none)
  else
   (if (v_1.Kind == 1) = true then
    (if (decide (zz.2.1 < ((s).length : Int))) = true then
     (ix s zz.2.1 >>= fun b_11 =>
      (HF44 fu v_1.Set (b_11.toNat : Int) >>= fun r_13 =>
       (if r_13 = true then
        (if ((ls zz.2.2.1).length + (ls (some ([IntKind.wrap .i64 (x + 1)] : List Int))).length) * 8 ≤ 140737488355328 then
         (some (true, (zz.1, zz.2.1, sapp zz.2.2.1 (ls (some ([IntKind.wrap .i64 (x + 1)] : List Int))), 0)))
        else none)
       else
        (some (true, (zz.1, zz.2.1, zz.2.2.1, 0))))))
    else
     (some (true, (zz.1, zz.2.1, zz.2.2.1, 0))))
   else
    (some (true, (zz.1, zz.2.1, zz.2.2.1, 0))))))
else none
theorem leB33_1 (fu : Nat) (p : T34) (s : Str) (t6_ : Sl Int) (now : Sl Int) (t24_ : T34) (t24_2 : Sl Int) (t24_3 : Int) (t24_4 : Str) (x : Int) (zz : (Sl Int) × Int × (Sl Int) × Nat) : Le (HB33_1 fu p s t6_ now t24_ t24_2 t24_3 t24_4 x zz) (B33_1 p s t6_ now t24_ t24_2 t24_3 t24_4 x zz) := by
  unfold HB33_1 B33_1
  repeat' (with_reducible first | exact leF44 fu _ _ | exact le_refl _ | apply le_ite | refine le_bind ?_ (fun _ => ?_))
noncomputable def SG33 (fu : Nat)  (ih : St33 → Option (Sl Int)) : St33 → Option (Sl Int) := fun st => match st with
 | .p1 p s t6_ now out place =>
  (if (decide (((ls now).length : Int) > 0)) = true then
   (HF43 fu p s place now >>= fun r_8 =>
    (ih (.p2 p s t6_ now r_8.1 r_8.2.1 r_8.2.2.1 r_8.2.2.2 out place (none : Sl Int))))
  else
   (some out))
 | .p2 p s t6_ now t24_ t24_2 t24_3 t24_4 out place next =>
  (HF57 fu (HB33_1 fu p s t6_ now t24_ t24_2 t24_3 t24_4) t24_ t24_2 t24_3 t24_4 (out, place, next, 0) >>= fun r_11 =>
   (if r_11.2.2.2 = 0 then
    (ih (.p1 p s t6_ r_11.2.2.1 r_11.1 (IntKind.wrap .i64 (r_11.2.1 + 1))))
   else
    none))
noncomputable def HG33 (fu : Nat)  : St33 → Option (Sl Int) :=
 Nat.rec (motive := fun _ => St33 → Option (Sl Int)) (fun _ => none) (fun fu ih => SG33 fu ih) fu
theorem HG33_s (fu : Nat)  (st : St33) : HG33 (fu + 1) st = SG33 fu (HG33 fu) st := rfl
theorem leG33 (fu : Nat) (st : St33) : Le (HG33 fu st) (G33 st) := by
  induction fu generalizing st with
  | zero => exact le_none _
  | succ fu ih =>
    cases st
    · rw [HG33_s, G33.eq_1]
      unfold SG33
      dsimp only
      generalize HG33 fu = hh at ih ⊢
      repeat' (with_reducible first | exact ih _ | exact leF43 fu _ _ _ _ | exact leF57 fu _ _ _ _ _ _ _ (fun _ _ => by first | exact leB33_1 fu _ _ _ _ _ _ _ _ _ _) | exact leB33_1 fu _ _ _ _ _ _ _ _ _ _ | exact le_refl _ | apply le_ite | refine le_bind ?_ (fun _ => ?_))
    · rw [HG33_s, G33.eq_2]
      unfold SG33
      dsimp only
      generalize HG33 fu = hh at ih ⊢
      repeat' (with_reducible first | exact ih _ | exact leF43 fu _ _ _ _ | exact leF57 fu _ _ _ _ _ _ _ (fun _ _ => by first | exact leB33_1 fu _ _ _ _ _ _ _ _ _ _) | exact leB33_1 fu _ _ _ _ _ _ _ _ _ _ | exact le_refl _ | apply le_ite | refine le_bind ?_ (fun _ => ?_))
noncomputable def HF33 (fu : Nat) (p : T34) (s : Str) (from_ : Int) : Option (Sl Int) :=
 (HG33 fu (.p1 p s none (some ([0] : List Int)) (none : Sl Int) from_))
theorem leF33 (fu : Nat) (p : T34) (s : Str) (from_ : Int) : Le (HF33 fu p s from_) (F33 p s from_) := by
  unfold HF33 F33
  repeat' (with_reducible first | exact leG33 fu _ | exact le_refl _ | apply le_ite | refine le_bind ?_ (fun _ => ?_))
noncomputable def HF56 (fu : Nat) (x_ : T52) : Option Bool :=
 (some (x_.Kind == 9))
theorem leF56 (fu : Nat) (x_ : T52) : Le (HF56 fu x_) (F56 x_) := by
  unfold HF56 F56
  repeat' (with_reducible first | exact le_refl _ | apply le_ite | refine le_bind ?_ (fun _ => ?_))
noncomputable def SG60 (fu : Nat)  (ih : St60 → Option Int) : St60 → Option Int := fun st => match st with
 | .p1 s t7_ t8_ =>
  (if (decide (t8_ < t7_)) = true then
   (ix (ls s) t8_ >>= fun v_2 =>
    (HF56 fu v_2 >>= fun r_4 =>
     (if r_4 = true then
      (some t8_)
     else
      (ih (.p1 s t7_ (IntKind.wrap .i64 (t8_ + 1)))))))
  else
   (some (-1)))
noncomputable def HG60 (fu : Nat)  : St60 → Option Int :=
 Nat.rec (motive := fun _ => St60 → Option Int) (fun _ => none) (fun fu ih => SG60 fu ih) fu
theorem HG60_s (fu : Nat)  (st : St60) : HG60 (fu + 1) st = SG60 fu (HG60 fu) st := rfl
theorem leG60 (fu : Nat) (st : St60) : Le (HG60 fu st) (G60 st) := by
  induction fu generalizing st with
  | zero => exact le_none _
  | succ fu ih =>
    cases st
    · rw [HG60_s, G60.eq_1]
      unfold SG60
      dsimp only
      generalize HG60 fu = hh at ih ⊢
      repeat' (with_reducible first | exact ih _ | exact leF56 fu _ | exact le_refl _ | apply le_ite | refine le_bind ?_ (fun _ => ?_))
noncomputable def HF60 (fu : Nat) (s : Sl T52) : Option Int :=
 (HG60 fu (.p1 s ((ls s).length : Int) 0))
theorem leF60 (fu : Nat) (s : Sl T52) : Le (HF60 fu s) (F60 s) := by
  unfold HF60 F60
  repeat' (with_reducible first | exact leG60 fu _ | exact le_refl _ | apply le_ite | refine le_bind ?_ (fun _ => ?_))
noncomputable def HF55 (fu : Nat) (s : Sl T52) : Option Bool :=
 (HF60 fu s >>= fun r_1 =>
  (some (decide (r_1 ≥ 0))))
theorem leF55 (fu : Nat) (s : Sl T52) : Le (HF55 fu s) (F55 s) := by
  unfold HF55 F55
  repeat' (with_reducible first | exact leF60 fu _ | exact le_refl _ | apply le_ite | refine le_bind ?_ (fun _ => ?_))
noncomputable def HF42 (fu : Nat) (p : T34) : Option Bool :=
 (HF55 fu p.Code >>= fun r_1 =>
  (some r_1))
theorem leF42 (fu : Nat) (p : T34) : Le (HF42 fu p) (F42 p) := by
  unfold HF42 F42
  repeat' (with_reducible first | exact leF55 fu _ | exact le_refl _ | apply le_ite | refine le_bind ?_ (fun _ => ?_))
noncomputable def SG11 (fu : Nat)  (ih : St11 → Option Bool) : St11 → Option Bool := fun st => match st with
 | .p1 p n t38_ t39_ t40_ =>
  (if (decide (t40_ < t39_)) = true then
   (ix (ls t38_) t40_ >>= fun v_8 =>
    (if (v_8.Kind == 1) = true then
     (ih (.p2 p n t40_ true t38_ t39_ t40_ v_8 ({ Kind := v_8.Kind, Set := v_8.Set, To := 0, Group := 0, Last := 0, Slot := 0 } : T52)))
    else
     (if (v_8.Kind == 2) = true then
      (ih (.p3 p n t40_ t38_ t39_ t40_ v_8 ({ Kind := v_8.Kind, Set := (Arr.rep 4 0), To := 0, Group := 0, Last := 0, Slot := 0 } : T52)))
     else
      (if (v_8.Kind == 3) = true then
       (ih (.p3 p n t40_ t38_ t39_ t40_ v_8 ({ Kind := v_8.Kind, Set := (Arr.rep 4 0), To := 0, Group := 0, Last := 0, Slot := 0 } : T52)))
      else
       (if (v_8.Kind == 4) = true then
        (ih (.p4 p n t40_ t38_ t39_ t40_ v_8 ({ Kind := v_8.Kind, Set := (Arr.rep 4 0), To := 0, Group := 0, Last := 0, Slot := 0 } : T52)))
       else
        (if (v_8.Kind == 5) = true then
         (ih (.p4 p n t40_ t38_ t39_ t40_ v_8 ({ Kind := v_8.Kind, Set := (Arr.rep 4 0), To := 0, Group := 0, Last := 0, Slot := 0 } : T52)))
        else
         (if (v_8.Kind == 9) = true then
          (ih (.p4 p n t40_ t38_ t39_ t40_ v_8 ({ Kind := v_8.Kind, Set := (Arr.rep 4 0), To := 0, Group := 0, Last := 0, Slot := 0 } : T52)))
         else
          (if (v_8.Kind == 6) = true then
           (if (decide (v_8.Group ≥ 1)) = true then
            (if (decide (v_8.Group ≤ p.Groups)) = true then
             (if (decide (v_8.Last ≥ v_8.Group)) = true then
              (ih (.p2 p n t40_ (decide (v_8.Last ≤ p.Groups)) t38_ t39_ t40_ v_8 ({ Kind := v_8.Kind, Set := (Arr.rep 4 0), To := 0, Group := v_8.Group, Last := v_8.Last, Slot := 0 } : T52)))
             else
              (ih (.p2 p n t40_ false t38_ t39_ t40_ v_8 ({ Kind := v_8.Kind, Set := (Arr.rep 4 0), To := 0, Group := v_8.Group, Last := v_8.Last, Slot := 0 } : T52))))
            else
             (ih (.p2 p n t40_ false t38_ t39_ t40_ v_8 ({ Kind := v_8.Kind, Set := (Arr.rep 4 0), To := 0, Group := v_8.Group, Last := v_8.Last, Slot := 0 } : T52))))
           else
            (ih (.p2 p n t40_ false t38_ t39_ t40_ v_8 ({ Kind := v_8.Kind, Set := (Arr.rep 4 0), To := 0, Group := v_8.Group, Last := v_8.Last, Slot := 0 } : T52))))
          else
           (if (v_8.Kind == 7) = true then
            (ih (.p5 p n t40_ t38_ t39_ t40_ v_8 ({ Kind := v_8.Kind, Set := (Arr.rep 4 0), To := 0, Group := 0, Last := 0, Slot := 0 } : T52)))
           else
            (if (v_8.Kind == 8) = true then
             (ih (.p5 p n t40_ t38_ t39_ t40_ v_8 ({ Kind := v_8.Kind, Set := (Arr.rep 4 0), To := 0, Group := 0, Last := 0, Slot := 0 } : T52)))
            else
             (if (v_8.Kind == 10) = true then
              (ih (.p2 p n t40_ true t38_ t39_ t40_ v_8 ({ Kind := v_8.Kind, Set := (Arr.rep 4 0), To := 0, Group := 0, Last := 0, Slot := 0 } : T52)))
             else
              (if (v_8.Kind == 11) = true then
               (ih (.p2 p n t40_ true t38_ t39_ t40_ v_8 ({ Kind := v_8.Kind, Set := (Arr.rep 4 0), To := 0, Group := 0, Last := 0, Slot := 0 } : T52)))
              else
               (if (v_8.Kind == 12) = true then
                (ih (.p2 p n t40_ true t38_ t39_ t40_ v_8 ({ Kind := v_8.Kind, Set := (Arr.rep 4 0), To := 0, Group := 0, Last := 0, Slot := 0 } : T52)))
               else
                (some false))))))))))))))
  else
   (some true))
 | .p2 p n i ok t38_ t39_ t40_ x_ plain =>
  (if (!ok) = true then
   (some false)
  else
   (if (!decide (plain = x_)) = true then
    (some false)
   else
    (if (!((x_.Kind == 12) == (i == (IntKind.wrap .i64 (n - 1))))) = true then
     (some false)
    else
     (ih (.p1 p n t38_ t39_ (IntKind.wrap .i64 (t40_ + 1)))))))
 | .p3 p n i t38_ t39_ t40_ x_ plain =>
  (if (decide (x_.To ≥ 0)) = true then
   (ih (.p2 p n i (decide (x_.To < n)) t38_ t39_ t40_ x_ ({ plain with To := x_.To } : T52)))
  else
   (ih (.p2 p n i false t38_ t39_ t40_ x_ ({ plain with To := x_.To } : T52))))
 | .p4 p n i t38_ t39_ t40_ x_ plain =>
  (if (decide (x_.Group ≥ 1)) = true then
   (ih (.p2 p n i (decide (x_.Group ≤ p.Groups)) t38_ t39_ t40_ x_ ({ plain with Group := x_.Group } : T52)))
  else
   (ih (.p2 p n i false t38_ t39_ t40_ x_ ({ plain with Group := x_.Group } : T52))))
 | .p5 p n i t38_ t39_ t40_ x_ plain =>
  (if (decide (x_.Slot ≥ 0)) = true then
   (ih (.p2 p n i (decide (x_.Slot < p.Slots)) t38_ t39_ t40_ x_ ({ plain with Slot := x_.Slot } : T52)))
  else
   (ih (.p2 p n i false t38_ t39_ t40_ x_ ({ plain with Slot := x_.Slot } : T52))))
noncomputable def HG11 (fu : Nat)  : St11 → Option Bool :=
 Nat.rec (motive := fun _ => St11 → Option Bool) (fun _ => none) (fun fu ih => SG11 fu ih) fu
theorem HG11_s (fu : Nat)  (st : St11) : HG11 (fu + 1) st = SG11 fu (HG11 fu) st := rfl
theorem leG11 (fu : Nat) (st : St11) : Le (HG11 fu st) (G11 st) := by
  induction fu generalizing st with
  | zero => exact le_none _
  | succ fu ih =>
    cases st
    · rw [HG11_s, G11.eq_1]
      unfold SG11
      dsimp only
      generalize HG11 fu = hh at ih ⊢
      repeat' (with_reducible first | exact ih _ | exact le_refl _ | apply le_ite | refine le_bind ?_ (fun _ => ?_))
    · rw [HG11_s, G11.eq_2]
      unfold SG11
      dsimp only
      generalize HG11 fu = hh at ih ⊢
      repeat' (with_reducible first | exact ih _ | exact le_refl _ | apply le_ite | refine le_bind ?_ (fun _ => ?_))
    · rw [HG11_s, G11.eq_3]
      unfold SG11
      dsimp only
      generalize HG11 fu = hh at ih ⊢
      repeat' (with_reducible first | exact ih _ | exact le_refl _ | apply le_ite | refine le_bind ?_ (fun _ => ?_))
    · rw [HG11_s, G11.eq_4]
      unfold SG11
      dsimp only
      generalize HG11 fu = hh at ih ⊢
      repeat' (with_reducible first | exact ih _ | exact le_refl _ | apply le_ite | refine le_bind ?_ (fun _ => ?_))
    · rw [HG11_s, G11.eq_5]
      unfold SG11
      dsimp only
      generalize HG11 fu = hh at ih ⊢
      repeat' (with_reducible first | exact ih _ | exact le_refl _ | apply le_ite | refine le_bind ?_ (fun _ => ?_))
noncomputable def HF11 (fu : Nat) (p : T34) : Option Bool :=
 (if (decide (p.Groups < 0)) = true then
  (some false)
 else
  (if (decide (p.Groups > 99)) = true then
   (some false)
  else
   (if (decide (p.Slots < 0)) = true then
    (some false)
   else
    (if (decide (p.Slots > 16384)) = true then
     (some false)
    else
     (if (decide (((ls p.Code).length : Int) < 1)) = true then
      (some false)
     else
      (if (decide (((ls p.Code).length : Int) > 16384)) = true then
       (some false)
      else
       (HG11 fu (.p1 p ((ls p.Code).length : Int) p.Code ((ls p.Code).length : Int) 0))))))))
theorem leF11 (fu : Nat) (p : T34) : Le (HF11 fu p) (F11 p) := by
  unfold HF11 F11
  repeat' (with_reducible first | exact leG11 fu _ | exact le_refl _ | apply le_ite | refine le_bind ?_ (fun _ => ?_))
noncomputable def HF32 (fu : Nat) (p : T34) : Option Int :=
 (HF11 fu p >>= fun r_1 =>
  (if (!r_1) = true then
   (some 100)
  else
   (HF42 fu p >>= fun r_4 =>
    (if r_4 = true then
     (some 101)
    else
     (some 0)))))
theorem leF32 (fu : Nat) (p : T34) : Le (HF32 fu p) (F32 p) := by
  unfold HF32 F32
  repeat' (with_reducible first | exact leF11 fu _ | exact leF42 fu _ | exact le_refl _ | apply le_ite | refine le_bind ?_ (fun _ => ?_))
noncomputable def SG23 (fu : Nat)  (ih : St23 → Option (T56 × Bool × Int)) : St23 → Option (T56 × Bool × Int) := fun st => match st with
 | .p1 t6_ =>
  (some (({ From := 0, To := 0 } : T56), false, 2))
 | .p2 s p i t6_ =>
  (if (decide (i ≤ ((s).length : Int))) = true then
   (HF33 fu p s i >>= fun r_8 =>
    (if (decide (((ls r_8).length : Int) > 0)) = true then
     (ix (ls r_8) (IntKind.wrap .i64 (((ls r_8).length : Int) - 1)) >>= fun v_11 =>
      (some (({ From := i, To := v_11 } : T56), true, 0)))
    else
     (ih (.p2 s p (IntKind.wrap .i64 (i + 1)) t6_))))
  else
   (some (({ From := 0, To := 0 } : T56), false, 0)))
noncomputable def HG23 (fu : Nat)  : St23 → Option (T56 × Bool × Int) :=
 Nat.rec (motive := fun _ => St23 → Option (T56 × Bool × Int)) (fun _ => none) (fun fu ih => SG23 fu ih) fu
theorem HG23_s (fu : Nat)  (st : St23) : HG23 (fu + 1) st = SG23 fu (HG23 fu) st := rfl
theorem leG23 (fu : Nat) (st : St23) : Le (HG23 fu st) (G23 st) := by
  induction fu generalizing st with
  | zero => exact le_none _
  | succ fu ih =>
    cases st
    · rw [HG23_s, G23.eq_1]
      unfold SG23
      dsimp only
      generalize HG23 fu = hh at ih ⊢
      repeat' (with_reducible first | exact ih _ | exact leF33 fu _ _ _ | exact le_refl _ | apply le_ite | refine le_bind ?_ (fun _ => ?_))
    · rw [HG23_s, G23.eq_2]
      unfold SG23
      dsimp only
      generalize HG23 fu = hh at ih ⊢
      repeat' (with_reducible first | exact ih _ | exact leF33 fu _ _ _ | exact le_refl _ | apply le_ite | refine le_bind ?_ (fun _ => ?_))
noncomputable def HF23 (fu : Nat) (p : T34) (s : Str) (from_ : Int) : Option (T56 × Bool × Int) :=
 (HF32 fu p >>= fun r_2 =>
  (if (r_2 != 0) = true then
   (some (({ From := 0, To := 0 } : T56), false, r_2))
  else
   (if (decide (from_ < 0)) = true then
    (HG23 fu (.p1 ({ From := 0, To := 0 } : T56)))
   else
    (if (decide (from_ > ((s).length : Int))) = true then
     (HG23 fu (.p1 ({ From := 0, To := 0 } : T56)))
    else
     (HG23 fu (.p2 s p from_ ({ From := 0, To := 0 } : T56)))))))
theorem leF23 (fu : Nat) (p : T34) (s : Str) (from_ : Int) : Le (HF23 fu p s from_) (F23 p s from_) := by
  unfold HF23 F23
  repeat' (with_reducible first | exact leF32 fu _ | exact leG23 fu _ | exact le_refl _ | apply le_ite | refine le_bind ?_ (fun _ => ?_))
noncomputable def HF8 (fu : Nat)  : Option Bool :=
 (HF10 fu ({ Kind := 5, Set := (Arr.rep 4 0), Min := 1, Max := (-1), Group := 0, Kids := (some ([({ Kind := 2, Set := (aset (aset (Arr.rep 4 0) 0 0) 1 8589934592), Min := 0, Max := 0, Group := 0, Kids := none } : T27)] : List T27)) } : T27) >>= fun r_3 =>
  (HF9 fu ({ Kind := 5, Set := (Arr.rep 4 0), Min := 1, Max := (-1), Group := 0, Kids := (some ([({ Kind := 2, Set := (aset (aset (Arr.rep 4 0) 0 0) 1 8589934592), Min := 0, Max := 0, Group := 0, Kids := none } : T27)] : List T27)) } : T27) >>= fun r_6 =>
   (HF23 fu r_3.1 ([98, 97, 97] : Str) 0 >>= fun r_8 =>
    (if (r_3.2 == 0) = true then
     (if (r_6.2 == 0) = true then
      (if (r_6.1 == 7) = true then
       (if (((ls r_3.1.Code).length : Int) == 7) = true then
        (if (r_8.2.2 == 0) = true then
         (if r_8.2.1 = true then
          (some (decide (r_8.1 = ({ From := 1, To := 3 } : T56))))
         else
          (some false))
        else
         (some false))
       else
        (some false))
      else
       (some false))
     else
      (some false))
    else
     (some false)))))
theorem leF8 (fu : Nat)  : Le (HF8 fu ) (F8 ) := by
  unfold HF8 F8
  repeat' (with_reducible first | exact leF10 fu _ | exact leF9 fu _ | exact leF23 fu _ _ _ | exact le_refl _ | apply le_ite | refine le_bind ?_ (fun _ => ?_))
end Go.Proofs.Ytjbafmnocopofaa
end
section
/-
  The small expression with which each law begins.
-/


namespace Go.Proofs.Ytjbafmnocopofaa
open Go AW
theorem f8 : F8 = some true := leF8 60 true (by kernel_rfl)
end Go.Proofs.Ytjbafmnocopofaa
end
section
/-
  NfaRuns, plain: every Right, Ends, Whole and Match, of any program, is as the document says; the program stays.
-/



namespace Go.Proofs.Ytjbafmnocopofaa
open Go AW
set_option linter.unusedVariables false
set_option linter.unusedSimpArgs false
set_option linter.unusedSectionVars false
set_option maxHeartbeats 4000000
theorem f20 (p : T34) {s : Str} (hs : s.length ≤ 100000000) (fr : Int) : F20 p s fr = F17 p s fr := by
  rw [f17 p hs]
  unfold F20
  rw [f35, sm]
  by_cases h : flt p = 0
  · rw [nfi h, if_neg (nne h)]
    by_cases h1 : fr < 0
    · rw [dti h1, if_pos (.inl h1)]
    · rw [dfi h1]
      by_cases h2 : (s.length : Int) < fr
      · rw [dti h2, if_pos (.inr h2)]
      · obtain ⟨n, rfl⟩ := nat_of (by omega : 0 ≤ fr)
        rw [dfi h2, if_neg (by omega), f36 (flt_0 h).1 hs (by omega), sm]; rfl
  · rw [nti h, if_pos h]
theorem g22 (t : T56) (l : List Int) (hl : l.length ≤ 1000000000) : ∀ (m k : Nat), m + k = l.length → G22 (.p1 t (so l) (k : Int)) = some (decide (t.To ∈ l.drop k), 0)
  | 0, k, h => by
    rw [G22.eq_1, dfi (by rw [ls_so]; omega), List.drop_of_length_le (by omega)]; rfl
  | m + 1, k, h => by
    obtain ⟨x, hx⟩ := get_ex l (i := k) (by omega)
    rw [G22.eq_1, dti (by rw [ls_so]; omega), ls_so, ixs hx, sm, drop_cons hx]
    by_cases e : x = t.To
    · rw [eti e]; simp [e]
    · rw [efi e, wn1 k (by omega), g22 t l hl m (k + 1) (by omega)]
      have e' : ¬ t.To = x := fun h => e h.symm
      simp [e']
theorem f22 (p : T34) {s : Str} (hs : s.length ≤ 100000000) (t : T56) : F22 p s t = F21 p s t := by
  rw [f21 p hs]
  unfold F22
  rw [f35, sm]
  by_cases h : flt p = 0
  · rw [nfi h, if_neg (nne h)]
    by_cases h1 : t.From < 0
    · rw [dti h1, if_pos (.inl h1)]
    rw [dfi h1]
    by_cases h2 : t.To < t.From
    · rw [dti h2, if_pos (.inr (.inl h2))]
    rw [dfi h2]
    by_cases h3 : t.To > (s.length : Int)
    · rw [dti h3, if_pos (.inr (.inr h3))]
    rw [dfi h3, if_neg (by omega)]
    obtain ⟨n, hn⟩ := nat_of (by omega : 0 ≤ t.From)
    have hl := en_len p s n
    rw [hn, f36 (flt_0 h).1 hs (by omega), sm]
    have := g22 t (ints (EN p s n)) (by simp [ints]; omega) (ints (EN p s n)).length 0 (by omega)
    have this' : G22 (.p1 t (so (ints (EN p s n))) 0) = some (decide (t.To ∈ (ints (EN p s n)).drop 0), 0) := this
    rw [this', List.drop_zero]; rfl
  · rw [nti h, if_pos h]
theorem g24 {p : T34} (hr : rp p = true) {s : Str} (hs : s.length ≤ 100000000) (t6 : T56) : ∀ (m i : Nat), m + i = s.length + 1 → G24 (.p2 s p (i : Int) t6) = G23 (.p2 s p (i : Int) t6)
  | 0, i, h => by rw [G24.eq_2, G23.eq_2, dfi (by omega), dfi (by omega)]
  | m + 1, i, h => by
    rw [G24.eq_2, G23.eq_2, dti (by omega), dti (by omega), f33' hr hs (by omega), f36 hr hs (by omega), sm, sm, wn1 i (by omega), g24 hr hs t6 m (i + 1) (by omega)]
theorem f24 (p : T34) {s : Str} (hs : s.length ≤ 100000000) (fr : Int) : F24 p s fr = F23 p s fr := by
  unfold F24 F23
  rw [f35, f32, sm, sm]
  by_cases h : flt p = 0
  · rw [nfi h, nfi h]
    by_cases h1 : fr < 0
    · rw [dti h1, dti h1, G24.eq_1, G23.eq_1]
    rw [dfi h1, dfi h1]
    by_cases h2 : fr > (s.length : Int)
    · rw [dti h2, dti h2, G24.eq_1, G23.eq_1]
    rw [dfi h2, dfi h2]
    obtain ⟨n, rfl⟩ := nat_of (by omega : 0 ≤ fr)
    exact g24 (flt_0 h).1 hs _ (s.length + 1 - n) n (by omega)
  · rw [nti h, nti h]
theorem g16 (p : T34) (hl : (ls p.Code).length ≤ 100000000) (t2 : T34) : ∀ (m i : Nat) (L : List T52), m + i = (ls p.Code).length → L.length = i →
    G16 (.p1 p (i : Int) t2 { Groups := p.Groups, Slots := p.Slots, Code := so L }) = some { Groups := p.Groups, Slots := p.Slots, Code := so (L ++ (ls p.Code).drop i) }
  | 0, i, L, h, hL => by
    rw [G16.eq_1, dfi (by omega), List.drop_of_length_le (by omega), List.append_nil]
  | m + 1, i, L, h, hL => by
    obtain ⟨x, hx⟩ := get_ex (ls p.Code) (i := i) (by omega)
    rw [G16.eq_1, dti (by omega), ixs hx, sm, if_pos (by show ((ls (so L)).length + 1) * 72 ≤ _; rw [ls_so]; omega), wn1 i (by omega)]
    have e : sapp (so L) (ls (some [x])) = so (L ++ [x]) := sapp_so L [x]
    have := g16 p hl t2 m (i + 1) (L ++ [x]) (by omega) (by simp [hL])
    simp only [e]
    rw [this, drop_cons hx]
    simp
theorem f16 (p : T34) (hl : (ls p.Code).length ≤ 100000000) : F16 p = some { Groups := p.Groups, Slots := p.Slots, Code := so (ls p.Code) } := by
  unfold F16
  have := g16 p hl { Groups := 0, Slots := 0, Code := none } (ls p.Code).length 0 [] (by omega) rfl
  rw [List.nil_append, List.drop_zero] at this
  exact this
theorem g18 (a b : T34) (hl : (ls a.Code).length ≤ 100000000) (hab : ls a.Code = ls b.Code) : ∀ (m i : Nat), m + i = (ls a.Code).length → G18 (.p1 a b (i : Int)) = some true
  | 0, i, h => by rw [G18.eq_1, dfi (by omega)]
  | m + 1, i, h => by
    obtain ⟨x, hx⟩ := get_ex (ls a.Code) (i := i) (by omega)
    rw [G18.eq_1, dti (by omega), ixs hx, ← hab, ixs hx, sm, sm, if_neg (by simp), wn1 i (by omega), g18 a b hl hab m (i + 1) (by omega)]
theorem f18 (a b : T34) (hl : (ls a.Code).length ≤ 100000000) (hab : ls a.Code = ls b.Code) (h1 : a.Groups = b.Groups) (h2 : a.Slots = b.Slots) : F18 a b = some true := by
  unfold F18
  rw [nfi h1, nfi h2, nfi (by rw [hab])]
  exact g18 a b hl hab (ls a.Code).length 0 (by omega)
theorem g15r (l : List Int) (hl : l.length ≤ 1000000000) (a : Sl Int) (ha : ls a = l) : ∀ (m i : Nat), m + i = l.length → G15 (.p1 a a (i : Int)) = some true
  | 0, i, h => by rw [G15.eq_1, dfi (by rw [ha]; omega)]
  | m + 1, i, h => by
    obtain ⟨x, hx⟩ := get_ex l (i := i) (by omega)
    rw [G15.eq_1, dti (by rw [ha]; omega), ha, ixs hx, sm, sm, nfi rfl, wn1 i (by omega), g15r l hl a ha m (i + 1) (by omega)]
theorem f15r (a : Sl Int) (hl : (ls a).length ≤ 1000000000) : F15 a a = some true := by
  unfold F15
  rw [nfi rfl]
  exact g15r (ls a) hl a rfl (ls a).length 0 (by omega)
/-! ### A copy is as good -/
def cpy (p : T34) : T34 := { Groups := p.Groups, Slots := p.Slots, Code := so (ls p.Code) }
theorem cpy_code (p : T34) : ls (cpy p).Code = ls p.Code := ls_so _
theorem cpy_fit (p : T34) (x : T52) : fit (cpy p) x = fit p x := by unfold fit; rw [cpy_code]; rfl
theorem cpy_fits (p : T34) : ∀ (l : List T52) (i : Nat), fits (cpy p) i l = fits p i l
  | [], i => rfl
  | x :: l, i => by rw [fits, fits, cpy_fit, cpy_code, cpy_fits p l]
theorem cpy_rp (p : T34) : rp (cpy p) = rp p := by unfold rp; rw [cpy_code, cpy_fits]; rfl
theorem cpy_flt (p : T34) : flt (cpy p) = flt p := by unfold flt; rw [cpy_rp, cpy_code]
theorem cpy_en (p : T34) (s : Str) (i : Nat) : EN (cpy p) s i = EN p s i := by unfold EN; rw [cpy_code]
theorem cpy_f17 (p : T34) {s : Str} (hs : s.length ≤ 100000000) (fr : Int) : F17 (cpy p) s fr = F17 p s fr := by rw [f17 _ hs, f17 _ hs, cpy_flt, cpy_en]
theorem cpy_f21 (p : T34) {s : Str} (hs : s.length ≤ 100000000) (t : T56) : F21 (cpy p) s t = F21 p s t := by rw [f21 _ hs, f21 _ hs, cpy_flt, cpy_en]
theorem cpy_g23 {p : T34} (hr : rp p = true) {s : Str} (hs : s.length ≤ 100000000) (t6 : T56) : ∀ (m i : Nat), m + i = s.length + 1 → G23 (.p2 s (cpy p) (i : Int) t6) = G23 (.p2 s p (i : Int) t6)
  | 0, i, h => by rw [G23.eq_2 s (cpy p), G23.eq_2 s p, dfi (by omega), dfi (by omega)]
  | m + 1, i, h => by
    rw [G23.eq_2 s (cpy p), G23.eq_2 s p, dti (by omega), dti (by omega), f33' hr hs (by omega), f33' (by rw [cpy_rp]; exact hr) hs (by omega), sm, sm, wn1 i (by omega), cpy_g23 hr hs t6 m (i + 1) (by omega), cpy_en]
theorem cpy_f23 (p : T34) {s : Str} (hs : s.length ≤ 100000000) (fr : Int) : F23 (cpy p) s fr = F23 p s fr := by
  unfold F23
  rw [f32, f32, cpy_flt, sm, sm]
  by_cases h : flt p = 0
  · rw [nfi h, nfi h]
    by_cases h1 : fr < 0
    · rw [dti h1, dti h1]
    rw [dfi h1, dfi h1]
    by_cases h2 : fr > (s.length : Int)
    · rw [dti h2, dti h2]
    rw [dfi h2, dfi h2]
    obtain ⟨n, rfl⟩ := nat_of (by omega : 0 ≤ fr)
    exact cpy_g23 (flt_0 h).1 hs _ (s.length + 1 - n) n (by omega)
  · rw [nti h, nti h]
theorem pureUNfaRuns (a0 : T34) (a1 : Str) (a2 : T56) (w0 : okr34 a0) (w2 : okr56 a2) (hb : bkr34 a0 + bkS a1 + bkr56 a2 ≤ 1048576) : F6 a0 a1 a2 = some true := by
  have hs : a1.length ≤ 100000000 := by unfold bkS at hb; omega
  have hl : (ls a0.Code).length ≤ 100000000 := by
    have : (ls a0.Code).length ≤ ((ls a0.Code).map bkr52).sum := by
      generalize ls a0.Code = l
      induction l with
      | nil => simp
      | cons x l ih => simp only [List.length_cons, List.map_cons, List.sum_cons]; have : 1 ≤ bkr52 x := by unfold bkr52; omega
                       omega
    unfold bkr34 bkSl at hb
    omega
  obtain ⟨r17, e17⟩ : ∃ r, F17 a0 a1 a2.From = some r := ⟨_, f17 a0 hs _⟩
  obtain ⟨r21, e21⟩ : ∃ r, F21 a0 a1 a2 = some r := ⟨_, f21 a0 hs _⟩
  obtain ⟨r23, e23, _⟩ := f23 a0 hs a2.From
  have hel : (ls r17.1).length ≤ 1000000000 := by
    rw [f17 a0 hs] at e17
    cases e17
    split
    · simp [ls]
    · split
      · simp [ls]
      · have := en_len a0 a1 a2.From.toNat
        rw [ls_so]; simp [ints]; omega
  have hc := f16 a0 hl
  have hc' : F16 a0 = some (cpy a0) := hc
  unfold F6
  rw [hc', sm, f11, sm, f19, sm, cpy_rp, if_neg (by simp), cpy_f17 a0 hs, e17, sm, f20 a0 hs, e17, sm, f15r r17.1 hel, sm, if_neg (by simp), nfi rfl, cpy_f21 a0 hs, e21, sm, f22 a0 hs, e21, sm, if_neg (by simp), nfi rfl, cpy_f23 a0 hs, e23, sm, f24 a0 hs, e23, sm]
  rw [dti rfl, ti (by simp), ti (by simp), f18 (cpy a0) a0 (by rw [cpy_code]; exact hl) (cpy_code a0) rfl rfl, sm, if_pos rfl, f8, sm]
end Go.Proofs.Ytjbafmnocopofaa
end
