/-
  Functions of the program's as plain functions.
-/
import Derived.Test.YtllhdbdbdblimaaDoorD0
set_option linter.unusedVariables false
set_option maxRecDepth 4000
set_option maxHeartbeats 4000000
namespace Go.Proofs.YtllhdbdbdblimaaDoor
open Go AW
attribute [local irreducible] W WD SH XS XLoop DFun XCall
/-! ### 18: paddock/paddockref01.First -/
def C18_8 : ACode := .s (.s (.ops [q 6 (.mv 5), q 7 (.mv 0), q 8 (.lenS 7), q 9 (.binI .lss 6 8)]) (.cond 9 .skip (.exit 0))) (.s (.block 1 (.s (.ops [q 12 (.mv 0), q 13 (.mv 5), q 14 (.ixS 12 13), q 15 (.binI .eql 14 (ku 10))]) (.cond 15 (.s (.draw [] 0 0 [q 16 (.mv 0), q 17 (.mv 5), q 18 (.slS 16 .none (.some 17)), q 19 (.mv 0), q 20 (.mv 5), q 21 (.binI .add 20 (ki 1)), q 22 (.slS 19 (.some 21) .none), q 2 (.mv 18), q 3 (.mv 22), q 4 (.mv (.c (.bool true)))] []) .ret) .skip))) (.ops [q 10 (.mv 5), q 11 (.binI .add 10 (ki 1)), q 5 (.mv 11)]))
def C18_24 : ACode := .s (.ops [q 23 (.mv 0), q 2 (.mv 23), q 3 (.mv (.c (.str []))), q 4 (.mv (.c (.bool false)))]) .ret
def C18_1 : ACode := .s (.ops [q 2 (.mv (.c (.str []))), q 3 (.mv (.c (.str []))), q 4 (.mv (.c (.bool false)))]) (.s (.s (.ops [q 5 (.mv (ki 0))]) (.block 0 (.loop C18_8))) C18_24)
def R18 : List RA := [(.tmp 2), (.tmp 3), (.tmp 4)]
theorem k18 : compF Tryd.prog (muL []) 18 = some ⟨24, C18_1, R18⟩ := by kernel_rfl
noncomputable abbrev X18 (r : Str × Str × Bool) : Cx := cD Tryd.prog gE 24 R18 (AV.tup [AV.str r.1, AV.str r.2.1, AV.bool r.2.2])
inductive St18 where
 | p1 (s : Str) (i : Int)
noncomputable def G18 : St18 → Option (Str × Str × Bool)
 | .p1 s i =>
  (if (decide (i < ((s).length : Int))) = true then
   (ix s i >>= fun b_2 =>
    (if ((b_2.toNat : Int) == 10) = true then
     (strcut s 0 i >>= fun w_5 =>
      (strcut s (IntKind.wrap .i64 (i + 1)) ((s).length) >>= fun w_7 =>
       (some (w_5, w_7, true))))
    else
     (G18 (.p1 s (IntKind.wrap .i64 (i + 1))))))
  else
   (some (s, ([] : Str), false)))
 partial_fixpoint
def M18 (x : St18) (r : Str × Str × Bool) : Prop := match x with
 | .p1 s i => ∀ (tm : Fr) (st : Store), Frm tm [(0, AV.str s), (5, AV.int .i64 i)] → SH st [] → W (X18 r) [.lp C18_8, .blk 0, .code C18_24] tm st
theorem w18 : ∀ (x : St18) (r : Str × Str × Bool), G18 x = some r → M18 x r := by
 refine G18.partial_correctness M18 ?_
 intro g ih x r hF
 cases x with
 | p1 s i =>
  dsimp only at hF
  intro tm st hf hs
  refine en hf ?_
  refine lp ?_
  refine rn 4 rfl ?_
  refine ci hF rfl (fun c_1 hF => ?_) (fun c_1 hF => ?_)
  · obtain ⟨b_2, g_3, hF⟩ := bind_some hF
    refine rn 2 rfl ?_
    refine W.o (e_ixS rfl rfl g_3) ?_
    refine rn 1 rfl ?_
    refine ci hF rfl (fun c_4 hF => ?_) (fun c_4 hF => ?_)
    · refine rn 0 rfl ?_
      have h0 := hs
      refine dr0 ?_
      obtain ⟨w_5, g_6, hF⟩ := bind_some hF
      refine dn 2 rfl ?_
      refine de rfl (e_slSh rfl rfl g_6) ?_
      obtain ⟨w_7, g_8, hF⟩ := bind_some hF
      refine dn 3 rfl ?_
      refine de rfl (e_slSl rfl rfl g_8) ?_
      refine dn 3 rfl ?_
      refine dz ?_
      refine rn 0 rfl ?_
      cases hF
      exact rD (rlt (rlt (rlt rl0))) rfl
    · refine rn 3 rfl ?_
      exact ih (.p1 s (IntKind.wrap .i64 (i + 1))) _ hF _ _ ⟨rfl, rfl, trivial⟩ hs
  · refine rn 4 rfl ?_
    cases hF
    exact rD (rlt (rlt (rlt rl0))) rfl
noncomputable def F18 (s : Str) : Option (Str × Str × Bool) :=
 (G18 (.p1 s 0))
theorem d18 (s : Str) (r : Str × Str × Bool) (hF : F18 s = some r) : DFun Tryd.prog gE 18 [AV.str s] (AV.tup [AV.str r.1, AV.str r.2.1, AV.bool r.2.2]) := by
 unfold F18 at hF
 refine bD k18 rfl ?_
 have hs : SH [] [] := SH.nil
 generalize ([] : Store) = st at hs ⊢
 refine rn 4 rfl ?_
 exact w18 (.p1 s 0) _ hF _ _ ⟨rfl, rfl, trivial⟩ hs
/-! ### 20: paddock/paddockref01.Join -/
def C20_20 : ACode := .s (.ops [q 12 (.mv 3), q 13 (.faddr 0 5), q 14 (.load1 13), q 15 (.app 1 1 12 14), q 3 (.mv 15)]) (.s (.ops [q 16 (.faddr 1 5), q 17 (.load1 16)]) (.cond 17 (.ops [q 18 (.mv 3), q 19 (.bslice 1 1 false [(.int .u8 0)] [(0, (1, (ku 10)))] false), q 20 (.app 1 1 18 19), q 3 (.mv 20)]) .skip))
def C20_10 : ACode := .s (.ops [q 9 (.binI .lss 8 7)]) (.s (.cond 9 .skip (.exit 0)) (.s (.block 1 (.s (.ops [q 10 (.iaddrL 2 6 8), q 11 (.loadN 2 10), q 5 (.alloc [(.str []), (.bool false)]), q0 (.store 2 5 11)]) C20_20)) (.ops [q 21 (.binI .add 8 (ki 1)), q 8 (.mv 21)])))
def C20_28 : ACode := .s (.ops [q 22 (.mv 3), q 23 (.b2s 22), q 2 (.mv 23)]) .ret
def C20_1 : ACode := .s (.ops [q 2 (.mv (.c (.str [])))]) (.s (.ops [q 3 (.mv (.c .nils))]) (.s (.s (.ops [q 6 (.mv 0), q 7 (.len 6), q 8 (.mv (ki 0))]) (.block 0 (.loop C20_10))) C20_28))
def R20 : List RA := [(.tmp 2)]
theorem k20 : compF Tryd.prog (muL []) 20 = some ⟨24, C20_1, R20⟩ := by kernel_rfl
noncomputable abbrev X20 (r : Str) : Cx := cD Tryd.prog gE 24 R20 (AV.str r)
inductive St20 where
 | p1 (t6_ : Sl T25) (t7_ : Int) (t8_ : Int) (out : Sl Int)
noncomputable def G20 : St20 → Option Str
 | .p1 t6_ t7_ t8_ out =>
  (if (decide (t8_ < t7_)) = true then
   (ix (ls t6_) t8_ >>= fun v_3 =>
    (if ((ls out).length + (ofBs v_3.Text).length) * 1 ≤ 140737488355328 then
     (if v_3.Whole = true then
      (if ((ls (sapp out (ofBs v_3.Text))).length + (ls (some ([10] : List Int))).length) * 1 ≤ 140737488355328 then
       (G20 (.p1 t6_ t7_ (IntKind.wrap .i64 (t8_ + 1)) (sapp (sapp out (ofBs v_3.Text)) (ls (some ([10] : List Int))))))
      else none)
     else
      (G20 (.p1 t6_ t7_ (IntKind.wrap .i64 (t8_ + 1)) (sapp out (ofBs v_3.Text)))))
    else none))
  else
   (some (toBs (ls out))))
 partial_fixpoint
def M20 (x : St20) (r : Str) : Prop := match x with
 | .p1 t6_ t7_ t8_ out => ∀ (tm : Fr) (st : Store) (io0 : Nat), Frm tm [(3, ownV 1 (AV.int .u8) out io0), (6, slV 2 v25 t6_), (7, AV.int .i64 t7_), (8, AV.int .i64 t8_)] → SH st [ownA io0 out] → W (X20 r) [.lp C20_10, .blk 0, .code C20_28] tm st
theorem w20 : ∀ (x : St20) (r : Str), G20 x = some r → M20 x r := by
 refine G20.partial_correctness M20 ?_
 intro g ih x r hF
 cases x with
 | p1 t6_ t7_ t8_ out =>
  dsimp only at hF
  intro tm st io0 hf hs
  refine en hf ?_
  refine lp ?_
  refine rn 1 rfl ?_
  refine ci hF rfl (fun c_2 hF => ?_) (fun c_2 hF => ?_)
  · obtain ⟨v_3, g_4, hF⟩ := bind_some hF
    refine rn 0 rfl ?_
    refine W.o (e_iaddrL (rd_V rfl) rfl g_4) ?_
    refine W.o (lND (s := c25 v_3) rfl rfl rfl) ?_
    refine al hs (cs := c25 ({ Text := [], Whole := false } : T25)) rfl fun st b_5 hs => ?_
    refine sr hs 0 rfl rfl rfl (cs' := c25 v_3) rfl rfl fun st hs => ?_
    refine rn 1 rfl ?_
    refine W.o (e_faddr rfl (hs.g 0 rfl)) ?_
    refine W.o (l1 rfl (hs.g 0 rfl) rfl) ?_
    obtain ⟨g_6, hF⟩ := grd_some hF
    refine ap (ys := ofBs v_3.Text) hs 1 rfl rfl (ae_str rfl) g_6 (fun _ => rfl) fun st b_7 hs => ?_
    refine rn 1 rfl ?_
    refine W.o (e_faddr rfl (hs.g 0 rfl)) ?_
    refine W.o (l1 rfl (hs.g 0 rfl) rfl) ?_
    refine rn 0 rfl ?_
    refine ci hF rfl (fun c_8 hF => ?_) (fun c_8 hF => ?_)
    · refine rn 1 rfl ?_
      refine bs (f := AV.int .u8) ([10] : List Int) hs rfl rfl rfl rfl fun st b_9 hs => ?_
      obtain ⟨g_10, hF⟩ := grd_some hF
      refine ap (ys := ls (some ([10] : List Int))) hs 2 rfl rfl (ae_rd (rd_W (o := (some ([10] : List Int))) (id := b_9) rfl)) g_10 (fun _ => rfl) fun st b_11 hs => ?_
      refine rn 3 rfl ?_
      exact ih (.p1 t6_ t7_ (IntKind.wrap .i64 (t8_ + 1)) (sapp (sapp out (ofBs v_3.Text)) (ls (some ([10] : List Int))))) _ hF _ _ b_11 ⟨rfl, rfl, rfl, rfl, trivial⟩ (hs.p 3 [2] rfl)
    · refine rn 2 rfl ?_
      exact ih (.p1 t6_ t7_ (IntKind.wrap .i64 (t8_ + 1)) (sapp out (ofBs v_3.Text))) _ hF _ _ b_7 ⟨rfl, rfl, rfl, rfl, trivial⟩ (hs.p 2 [1] rfl)
  · refine rn 1 rfl ?_
    refine W.o (e_b2s (rd_W (o := out) (id := io0) rfl)) ?_
    refine rn 1 rfl ?_
    cases hF
    exact rD (rlt rl0) rfl
noncomputable def F20 (l : Sl T25) : Option Str :=
 (G20 (.p1 l ((ls l).length : Int) 0 none))
theorem d20 (l : Sl T25) (r : Str) (hF : F20 l = some r) : DFun Tryd.prog gE 20 [slV 2 v25 l] (AV.str r) := by
 unfold F20 at hF
 refine bD k20 rfl ?_
 have hs : SH [] [] := SH.nil
 generalize ([] : Store) = st at hs ⊢
 refine rn 3 rfl ?_
 refine W.o (e_len (rd_V rfl)) ?_
 refine rn 1 rfl ?_
 have hs := hs.ownNil Int
 exact w20 (.p1 l ((ls l).length : Int) 0 none) _ hF _ _ 0 ⟨rfl, rfl, rfl, rfl, trivial⟩ hs
/-! ### 4: paddock/paddocklaw01.LinesSplits -/
def O4_8o1 : List AOp := (q 47 (.mv 5)).y 46 :: (q 48 (.mv 8)).y 46 :: (q 49 (.binS .eql 47 48)).y 46 :: q 50 (.pick 46 49 (.c (.bool false))) :: q 51 (.mv 50) :: (q 52 (.mv 6)).y 51 :: (q 53 (.mv 9)).y 51 :: (q 54 (.binS .eql 52 53)).y 51 :: q 55 (.pick 51 54 (.c (.bool false))) :: q 56 (.mv 55) :: (q 57 (.mv 7)).y 56 :: (q 58 (.mv 10)).y 56 :: (q 59 (.eqB false 57 58)).y 56 :: q 60 (.pick 56 59 (.c (.bool false))) :: q 4 (.mv 60) :: []
def O4_8o0 : List AOp := qc 23 13 [] :: q 24 (.mv 23) :: (q 25 (.mv 0)).y 24 :: (qc 26 14 [25]).y 24 :: (q 27 (.mv 0)).y 24 :: (qc 28 16 [27]).y 24 :: (qc 29 15 [26, 28]).y 24 :: q 30 (.pick 24 29 (.c (.bool false))) :: q 31 (.mv 30) :: (q 32 (.mv 1)).y 31 :: (qc 33 19 [32]).y 31 :: (q 34 (.mv 1)).y 31 :: (qc 35 20 [34]).y 31 :: (q 36 (.binS .eql 33 35)).y 31 :: q 37 (.pick 31 36 (.c (.bool false))) :: q 38 (.mv 37) :: (q 39 (.mv 0)).y 38 :: (qc 40 21 [39]).y 38 :: (q 41 (.mv 0)).y 38 :: (qc 42 16 [41]).y 38 :: (q 43 (.len 42)).y 38 :: (q 44 (.binI .eql 40 43)).y 38 :: q 45 (.pick 38 44 (.c (.bool false))) :: q 46 (.mv 45) :: O4_8o1
def C4_1 : ACode := .s (.ops [q 4 (.mv (.c (.bool false)))]) (.s (.ops [q 12 (.mv 0), qc 13 17 [12], q 11 (.mv 13), q 14 (.extract 11 0), q 15 (.extract 11 1), q 16 (.extract 11 2), q 5 (.mv 14), q 6 (.mv 15), q 7 (.mv 16)]) (.s (.ops [q 18 (.mv 0), qc 19 18 [18], q 17 (.mv 19), q 20 (.extract 17 0), q 21 (.extract 17 1), q 22 (.extract 17 2), q 8 (.mv 20), q 9 (.mv 21), q 10 (.mv 22)]) (.s (.ops O4_8o0) .ret)))
def R4 : List RA := [(.tmp 4)]
theorem k4 : compF Tryd.prog (muL []) 4 = some ⟨61, C4_1, R4⟩ := by kernel_rfl
noncomputable abbrev X4 (r : Bool) : Cx := cD Tryd.prog gE 61 R4 (AV.bool r)
noncomputable def F4 (s : Str) (l : Sl T25) : Option Bool :=
 (F17 s >>= fun r_1 =>
  (F18 s >>= fun r_3 =>
   (F13 >>= fun r_5 =>
    (if r_5 = true then
     (F14 s >>= fun r_8 =>
      (F16 s >>= fun r_10 =>
       (F15 r_8 r_10 >>= fun r_12 =>
        (if r_12 = true then
         (F19 l >>= fun r_15 =>
          (F20 l >>= fun r_17 =>
           (if (r_15 == r_17) = true then
            (F21 s >>= fun r_20 =>
             (F16 s >>= fun r_22 =>
              (if (r_20 == ((ls r_22).length : Int)) = true then
               (if (r_1.1 == r_3.1) = true then
                (if (r_1.2.1 == r_3.2.1) = true then
                 (some (r_1.2.2 == r_3.2.2))
                else
                 (some false))
               else
                (some false))
              else
               (some false))))
           else
            (some false))))
        else
         (some false)))))
    else
     (some false)))))
theorem d4 (s : Str) (l : Sl T25) (r : Bool) (hF : F4 s l = some r) : DFun Tryd.prog gE 4 [AV.str s, slV 2 v25 l] (AV.bool r) := by
 unfold F4 at hF
 refine bD k4 rfl ?_
 have hs : SH [] [] := SH.nil
 generalize ([] : Store) = st at hs ⊢
 obtain ⟨r_1, g_2, hF⟩ := bind_some hF
 refine rn 2 rfl ?_
 refine df (d17 s _ g_2) rfl ?_
 obtain ⟨r_3, g_4, hF⟩ := bind_some hF
 refine rn 8 rfl ?_
 refine df (d18 s _ g_4) rfl ?_
 obtain ⟨r_5, g_6, hF⟩ := bind_some hF
 refine rn 7 rfl ?_
 refine df (d13 _ g_6) rfl ?_
 refine rn 1 rfl ?_
 refine bi hF (fun c_7 hF => ?_) (fun c_7 hF => ?_)
 · refine wfx 24 rfl c_7 ?_
   obtain ⟨r_8, g_9, hF⟩ := bind_some hF
   refine rn 1 rfl ?_
   refine W.on rfl rfl ?_
   refine df (dfun_own (fun st L K hs hK => d14 s _ g_9 K L st hs hK)) rfl ?_
   obtain ⟨r_10, g_11, hF⟩ := bind_some hF
   refine rn 1 rfl ?_
   refine W.on rfl rfl ?_
   refine df (dfun_own (fun st L K hs hK => d16 s _ g_11 K L st hs hK)) rfl ?_
   obtain ⟨r_12, g_13, hF⟩ := bind_some hF
   refine W.on rfl rfl ?_
   refine df (d15 r_8 r_10 _ g_13) rfl ?_
   refine rn 2 rfl ?_
   refine bi hF (fun c_14 hF => ?_) (fun c_14 hF => ?_)
   · refine wfx 31 rfl c_14 ?_
     obtain ⟨r_15, g_16, hF⟩ := bind_some hF
     refine rn 1 rfl ?_
     refine W.on rfl rfl ?_
     refine df (d19 l _ g_16) rfl ?_
     obtain ⟨r_17, g_18, hF⟩ := bind_some hF
     refine rn 1 rfl ?_
     refine W.on rfl rfl ?_
     refine df (d20 l _ g_18) rfl ?_
     refine rn 3 rfl ?_
     refine bi hF (fun c_19 hF => ?_) (fun c_19 hF => ?_)
     · refine wfx 38 rfl c_19 ?_
       obtain ⟨r_20, g_21, hF⟩ := bind_some hF
       refine rn 1 rfl ?_
       refine W.on rfl rfl ?_
       refine df (d21 s _ g_21) rfl ?_
       obtain ⟨r_22, g_23, hF⟩ := bind_some hF
       refine rn 1 rfl ?_
       refine W.on rfl rfl ?_
       refine df (dfun_own (fun st L K hs hK => d16 s _ g_23 K L st hs hK)) rfl ?_
       refine W.on rfl rfl ?_
       refine W.o (e_len (rd_V rfl)) ?_
       refine rn 3 rfl ?_
       refine bi hF (fun c_24 hF => ?_) (fun c_24 hF => ?_)
       · refine wfx 46 rfl c_24 ?_
         refine rn 5 rfl ?_
         refine bi hF (fun c_25 hF => ?_) (fun c_25 hF => ?_)
         · refine wfx 51 rfl c_25 ?_
           refine rn 5 rfl ?_
           refine bi hF (fun c_26 hF => ?_) (fun c_26 hF => ?_)
           · refine wfx 56 rfl c_26 ?_
             refine rn 5 rfl ?_
             cases hF
             exact rD (rlt rl0) rfl
           · refine wfx 56 rfl c_26 ?_
             refine rn 5 rfl ?_
             cases hF
             exact rD (rlt rl0) rfl
         · refine wfx 51 rfl c_25 ?_
           refine rn 10 rfl ?_
           cases hF
           exact rD (rlt rl0) rfl
       · refine wfx 46 rfl c_24 ?_
         refine rn 15 rfl ?_
         cases hF
         exact rD (rlt rl0) rfl
     · refine wfx 38 rfl c_19 ?_
       refine rn 23 rfl ?_
       cases hF
       exact rD (rlt rl0) rfl
   · refine wfx 31 rfl c_14 ?_
     refine rn 30 rfl ?_
     cases hF
     exact rD (rlt rl0) rfl
 · refine wfx 24 rfl c_7 ?_
   refine rn 37 rfl ?_
   cases hF
   exact rD (rlt rl0) rfl
/-! ### 5: paddock/paddocklaw01.LinesBack -/
def C5_31 : ACode := .s (.ops [qc 51 13 [], q 4 (.mv 51)]) .ret
def C5_26 : ACode := .s (.ops [q 27 (.faddr 0 6), q 28 (.load1 27), qc 29 17 [28], q 26 (.mv 29), q 30 (.extract 26 0), q 31 (.extract 26 1), q 32 (.extract 26 2), q 7 (.mv 30), q 8 (.mv 31), q 9 (.mv 32)]) (.s (.ops [q 33 (.mv 9), q 34 (.mv 33), (q 35 (.faddr 1 6)).n 34, (q 36 (.load1 35)).n 34, (q 37 (.un .not 36)).n 34, (q 38 (.mv 37)).n 34, (q 39 (.faddr 0 6)).y 38, (q 40 (.load1 39)).y 38, (q 41 (.binS .eql 40 (.c (.str [])))).y 38, (q 42 (.mv 41)).y 38, (q 43 (.mv 5)).n 42, (q 44 (.binI .add 43 (ki 1))).n 42, (q 45 (.mv 1)).n 42, (q 46 (.len 45)).n 42, (q 47 (.binI .lss 44 46)).n 42, (q 48 (.pick 42 (.c (.bool true)) 47)).y 38, (q 49 (.pick 38 48 (.c (.bool false)))).n 34, q 50 (.pick 34 (.c (.bool true)) 49)]) (.cond 50 C5_31 .skip))
def C5_35 : ACode := .ops [q 52 (.binI .add 21 (ki 1)), q 21 (.mv 52)]
def C5_16 : ACode := .s (.ops [q 22 (.binI .lss 21 20)]) (.s (.cond 22 .skip (.exit 0)) (.s (.block 1 (.s (.ops [q 23 (.mv 21), q 24 (.iaddrL 2 19 21), q 25 (.loadN 2 24), q 6 (.alloc [(.str []), (.bool false)]), q 5 (.mv 23), q0 (.store 2 6 25)]) C5_26)) C5_35))
def C5_36 : ACode := .s (.ops [q 53 (.mv 1), qc 54 19 [53], qc 55 14 [54], q 56 (.mv 1), qc 57 15 [55, 56], q 58 (.mv 57), (q 59 (.mv 1)).y 58, (qc 60 19 [59]).y 58, (qc 61 21 [60]).y 58, (q 62 (.mv 1)).y 58, (q 63 (.len 62)).y 58, (q 64 (.binI .eql 61 63)).y 58, q 65 (.pick 58 64 (.c (.bool false))), q 4 (.mv 65)]) .ret
def C5_1 : ACode := .s (.ops [q 4 (.mv (.c (.bool false)))]) (.s (.s (.ops [qc 10 13 [], q 11 (.un .not 10), q 12 (.mv 11), (q 13 (.mv 0)).n 12, (qc 14 14 [13]).n 12, (qc 15 19 [14]).n 12, (q 16 (.mv 0)).n 12, (q 17 (.binS .neq 15 16)).n 12, q 18 (.pick 12 (.c (.bool true)) 17)]) (.cond 18 (.s (.ops [q 4 (.mv (.c (.bool false)))]) .ret) .skip)) (.s (.s (.ops [q 19 (.mv 1), q 20 (.len 19), q 21 (.mv (ki 0))]) (.block 0 (.loop C5_16))) C5_36))
def R5 : List RA := [(.tmp 4)]
theorem k5 : compF Tryd.prog (muL []) 5 = some ⟨66, C5_1, R5⟩ := by kernel_rfl
noncomputable abbrev X5 (r : Bool) : Cx := cD Tryd.prog gE 66 R5 (AV.bool r)
inductive St5 where
 | p1 (l : Sl T25) (t19_ : Sl T25) (t20_ : Int) (t21_ : Int)
 | p2 
noncomputable def G5 : St5 → Option Bool
 | .p1 l t19_ t20_ t21_ =>
  (if (decide (t21_ < t20_)) = true then
   (ix (ls t19_) t21_ >>= fun v_10 =>
    (F17 v_10.Text >>= fun r_13 =>
     (if r_13.2.2 = true then
      (G5 (.p2))
     else
      (if (!v_10.Whole) = true then
       (if (v_10.Text == ([] : Str)) = true then
        (G5 (.p2))
       else
        (if (decide ((IntKind.wrap .i64 (t21_ + 1)) < ((ls l).length : Int))) = true then
         (G5 (.p2))
        else
         (G5 (.p1 l t19_ t20_ (IntKind.wrap .i64 (t21_ + 1))))))
      else
       (G5 (.p1 l t19_ t20_ (IntKind.wrap .i64 (t21_ + 1))))))))
  else
   (F19 l >>= fun r_19 =>
    (F14 r_19 >>= fun r_21 =>
     (F15 r_21 l >>= fun r_23 =>
      (if r_23 = true then
       (F19 l >>= fun r_26 =>
        (F21 r_26 >>= fun r_28 =>
         (some (r_28 == ((ls l).length : Int)))))
      else
       (some false))))))
 | .p2  =>
  (F13 >>= fun r_30 =>
   (some r_30))
 partial_fixpoint
def M5 (x : St5) (r : Bool) : Prop := match x with
 | .p1 l t19_ t20_ t21_ => ∀ (tm : Fr) (st : Store), Frm tm [(1, slV 2 v25 l), (19, slV 2 v25 t19_), (20, AV.int .i64 t20_), (21, AV.int .i64 t21_)] → SH st [] → W (X5 r) [.lp C5_16, .blk 0, .code C5_36] tm st
 | .p2  => ∀ (tm : Fr) (st : Store), Frm tm [] → SH st [] → W (X5 r) [.code C5_31, .blk 1, .code C5_35, .lp C5_16, .blk 0, .code C5_36] tm st
theorem w5 : ∀ (x : St5) (r : Bool), G5 x = some r → M5 x r := by
 refine G5.partial_correctness M5 ?_
 intro g ih x r hF
 cases x with
 | p1 l t19_ t20_ t21_ =>
  dsimp only at hF
  intro tm st hf hs
  refine en hf ?_
  refine lp ?_
  refine rn 1 rfl ?_
  refine ci hF rfl (fun c_9 hF => ?_) (fun c_9 hF => ?_)
  · obtain ⟨v_10, g_11, hF⟩ := bind_some hF
    refine rn 1 rfl ?_
    refine W.o (e_iaddrL (rd_V rfl) rfl g_11) ?_
    refine W.o (lND (s := c25 v_10) rfl rfl rfl) ?_
    refine al hs (cs := c25 ({ Text := [], Whole := false } : T25)) rfl fun st b_12 hs => ?_
    refine rn 1 rfl ?_
    refine sr hs 0 rfl rfl rfl (cs' := c25 v_10) rfl rfl fun st hs => ?_
    refine rn 0 rfl ?_
    refine W.o (e_faddr rfl (hs.g 0 rfl)) ?_
    refine W.o (l1 rfl (hs.g 0 rfl) rfl) ?_
    obtain ⟨r_13, g_14, hF⟩ := bind_some hF
    refine df (d17 v_10.Text _ g_14) rfl ?_
    refine rn 9 rfl ?_
    refine bi hF (fun c_15 hF => ?_) (fun c_15 hF => ?_)
    · refine wfx 34 rfl c_15 ?_
      refine rn 16 rfl ?_
      refine ct rfl rfl ?_
      exact ih (.p2) _ hF _ _ trivial (hs.p 1 [] rfl)
    · refine wfx 34 rfl c_15 ?_
      refine W.on rfl rfl ?_
      refine W.o (e_faddr rfl (hs.g 0 rfl)) ?_
      refine W.on rfl rfl ?_
      refine W.o (l1 rfl (hs.g 0 rfl) rfl) ?_
      refine rn 2 rfl ?_
      refine bi hF (fun c_16 hF => ?_) (fun c_16 hF => ?_)
      · refine wfx 38 rfl c_16 ?_
        refine W.on rfl rfl ?_
        refine W.o (e_faddr rfl (hs.g 0 rfl)) ?_
        refine W.on rfl rfl ?_
        refine W.o (l1 rfl (hs.g 0 rfl) rfl) ?_
        refine rn 2 rfl ?_
        refine bi hF (fun c_17 hF => ?_) (fun c_17 hF => ?_)
        · refine wfx 42 rfl c_17 ?_
          refine rn 8 rfl ?_
          refine ct rfl rfl ?_
          exact ih (.p2) _ hF _ _ trivial (hs.p 1 [] rfl)
        · refine wfx 42 rfl c_17 ?_
          refine rn 3 rfl ?_
          refine W.on rfl rfl ?_
          refine W.o (e_len (rd_V rfl)) ?_
          refine rn 4 rfl ?_
          refine ci hF rfl (fun c_18 hF => ?_) (fun c_18 hF => ?_)
          · exact ih (.p2) _ hF _ _ trivial (hs.p 1 [] rfl)
          · refine rn 2 rfl ?_
            exact ih (.p1 l t19_ t20_ (IntKind.wrap .i64 (t21_ + 1))) _ hF _ _ ⟨rfl, rfl, rfl, rfl, trivial⟩ (hs.p 1 [] rfl)
      · refine wfx 38 rfl c_16 ?_
        refine rn 12 rfl ?_
        refine cf rfl rfl ?_
        refine rn 2 rfl ?_
        exact ih (.p1 l t19_ t20_ (IntKind.wrap .i64 (t21_ + 1))) _ hF _ _ ⟨rfl, rfl, rfl, rfl, trivial⟩ (hs.p 1 [] rfl)
  · obtain ⟨r_19, g_20, hF⟩ := bind_some hF
    refine rn 1 rfl ?_
    refine df (d19 l _ g_20) rfl ?_
    obtain ⟨r_21, g_22, hF⟩ := bind_some hF
    refine df (dfun_own (fun st L K hs hK => d14 r_19 _ g_22 K L st hs hK)) rfl ?_
    obtain ⟨r_23, g_24, hF⟩ := bind_some hF
    refine rn 1 rfl ?_
    refine df (d15 r_21 l _ g_24) rfl ?_
    refine rn 1 rfl ?_
    refine bi hF (fun c_25 hF => ?_) (fun c_25 hF => ?_)
    · refine wfx 58 rfl c_25 ?_
      obtain ⟨r_26, g_27, hF⟩ := bind_some hF
      refine rn 1 rfl ?_
      refine W.on rfl rfl ?_
      refine df (d19 l _ g_27) rfl ?_
      obtain ⟨r_28, g_29, hF⟩ := bind_some hF
      refine W.on rfl rfl ?_
      refine df (d21 r_26 _ g_29) rfl ?_
      refine rn 1 rfl ?_
      refine W.on rfl rfl ?_
      refine W.o (e_len (rd_V rfl)) ?_
      refine rn 3 rfl ?_
      cases hF
      exact rD (rlt rl0) rfl
    · refine wfx 58 rfl c_25 ?_
      refine rn 8 rfl ?_
      cases hF
      exact rD (rlt rl0) rfl
 | p2  =>
  dsimp only at hF
  intro tm st hf hs
  refine en hf ?_
  obtain ⟨r_30, g_31, hF⟩ := bind_some hF
  refine rn 0 rfl ?_
  refine df (d13 _ g_31) rfl ?_
  refine rn 1 rfl ?_
  cases hF
  exact rD (rlt rl0) rfl
noncomputable def F5 (s : Str) (l : Sl T25) : Option Bool :=
 (F13 >>= fun r_1 =>
  (if (!r_1) = true then
   (some false)
  else
   (F14 s >>= fun r_4 =>
    (F19 r_4 >>= fun r_6 =>
     (if (!(r_6 == s)) = true then
      (some false)
     else
      (G5 (.p1 l l ((ls l).length : Int) 0)))))))
theorem d5 (s : Str) (l : Sl T25) (r : Bool) (hF : F5 s l = some r) : DFun Tryd.prog gE 5 [AV.str s, slV 2 v25 l] (AV.bool r) := by
 unfold F5 at hF
 refine bD k5 rfl ?_
 have hs : SH [] [] := SH.nil
 generalize ([] : Store) = st at hs ⊢
 obtain ⟨r_1, g_2, hF⟩ := bind_some hF
 refine rn 1 rfl ?_
 refine df (d13 _ g_2) rfl ?_
 refine rn 2 rfl ?_
 refine bi hF (fun c_3 hF => ?_) (fun c_3 hF => ?_)
 · refine wfx 12 rfl c_3 ?_
   refine rn 6 rfl ?_
   refine ct rfl rfl ?_
   refine rn 1 rfl ?_
   cases hF
   exact rD (rlt rl0) rfl
 · refine wfx 12 rfl c_3 ?_
   obtain ⟨r_4, g_5, hF⟩ := bind_some hF
   refine rn 1 rfl ?_
   refine W.on rfl rfl ?_
   refine df (dfun_own (fun st L K hs hK => d14 s _ g_5 K L st hs hK)) rfl ?_
   obtain ⟨r_6, g_7, hF⟩ := bind_some hF
   refine W.on rfl rfl ?_
   refine df (d19 r_4 _ g_7) rfl ?_
   refine rn 3 rfl ?_
   refine ci hF rfl (fun c_8 hF => ?_) (fun c_8 hF => ?_)
   · refine rn 1 rfl ?_
     cases hF
     exact rD (rlt rl0) rfl
   · refine rn 1 rfl ?_
     refine W.o (e_len (rd_V rfl)) ?_
     refine rn 1 rfl ?_
     exact w5 (.p1 l l ((ls l).length : Int) 0) _ hF _ _ ⟨rfl, rfl, rfl, rfl, trivial⟩ hs
/-! ### 6: paddock/paddocklaw01.LinesParts -/
def O6_20o1 : List AOp := (q 55 (.binS .add 54 (.c (.str [10])))).y 53 :: (q 56 (.mv 7)).y 53 :: (q 57 (.binS .add 55 56)).y 53 :: (q 58 (.mv 0)).y 53 :: (q 59 (.mv 1)).y 53 :: (q 60 (.binS .add 58 59)).y 53 :: (q 61 (.binS .eql 57 60)).y 53 :: q 62 (.pick 53 61 (.c (.bool false))) :: q 4 (.mv 62) :: []
def O6_20o0 : List AOp := q 31 (.mv 0) :: q 32 (.mv 1) :: q 33 (.binS .add 31 32) :: qc 34 14 [33] :: q 35 (.mv 5) :: qc 36 15 [34, 35] :: q 37 (.mv 36) :: (q 38 (.mv 8)).y 37 :: q 39 (.pick 37 38 (.c (.bool false))) :: q 40 (.mv 39) :: (q 41 (.mv 9)).y 40 :: (q 42 (.len 41)).y 40 :: (q 43 (.binI .gtr 42 (ki 0))).y 40 :: q 44 (.pick 40 43 (.c (.bool false))) :: q 45 (.mv 44) :: (q 46 (.mv 6)).y 45 :: (q 47 (.mv 9)).y 45 :: (q 48 (.iaddrL 2 47 (ki 0))).y 45 :: (q 49 (.faddr 0 48)).y 45 :: (q 50 (.load1 49)).y 45 :: (q 51 (.binS .eql 46 50)).y 45 :: q 52 (.pick 45 51 (.c (.bool false))) :: q 53 (.mv 52) :: (q 54 (.mv 6)).y 53 :: O6_20o1
def C6_1 : ACode := .s (.ops [q 4 (.mv (.c (.bool false)))]) (.s (.s (.ops [qc 10 13 [], q 11 (.un .not 10)]) (.cond 11 (.s (.ops [q 4 (.mv (.c (.bool false)))]) .ret) .skip)) (.s (.ops [q 12 (.mv 0), q 13 (.binS .add 12 (.c (.str [10]))), q 0 (.mv 13)]) (.s (.ops [q 14 (.mv 0), qc 15 14 [14], q 16 (.mv 1), qc 17 14 [16], q 18 (.app 2 24 15 17), q 5 (.mv 18)]) (.s (.ops [q 20 (.mv 0), q 21 (.mv 1), q 22 (.binS .add 20 21), qc 23 17 [22], q 19 (.mv 23), q 24 (.extract 19 0), q 25 (.extract 19 1), q 26 (.extract 19 2), q 6 (.mv 24), q 7 (.mv 25), q 8 (.mv 26)]) (.s (.ops [q 27 (.mv 0), q 28 (.mv 1), q 29 (.binS .add 27 28), qc 30 16 [29], q 9 (.mv 30)]) (.s (.ops O6_20o0) .ret))))))
def R6 : List RA := [(.tmp 4)]
theorem k6 : compF Tryd.prog (muL []) 6 = some ⟨63, C6_1, R6⟩ := by kernel_rfl
noncomputable abbrev X6 (r : Bool) : Cx := cD Tryd.prog gE 63 R6 (AV.bool r)
noncomputable def F6 (s : Str) (t : Str) : Option Bool :=
 (F13 >>= fun r_1 =>
  (if (!r_1) = true then
   (some false)
  else
   (if (s).length + (([10] : Str)).length ≤ 9223372036854775807 then
    (F14 (s ++ ([10] : Str)) >>= fun r_5 =>
     (F14 t >>= fun r_8 =>
      (if ((ls r_5).length + (ls r_8).length) * 24 ≤ 140737488355328 then
       (if (s ++ ([10] : Str)).length + (t).length ≤ 9223372036854775807 then
        (F17 ((s ++ ([10] : Str)) ++ t) >>= fun r_13 =>
         (if (s ++ ([10] : Str)).length + (t).length ≤ 9223372036854775807 then
          (F16 ((s ++ ([10] : Str)) ++ t) >>= fun r_16 =>
           (if (s ++ ([10] : Str)).length + (t).length ≤ 9223372036854775807 then
            (F14 ((s ++ ([10] : Str)) ++ t) >>= fun r_19 =>
             (F15 r_19 (sapp r_5 (ls r_8)) >>= fun r_21 =>
              (if r_21 = true then
               (if r_13.2.2 = true then
                (if (decide (((ls r_16).length : Int) > 0)) = true then
                 (ix (ls r_16) 0 >>= fun v_26 =>
                  (if (r_13.1 == v_26.Text) = true then
                   (if (r_13.1).length + (([10] : Str)).length ≤ 9223372036854775807 then
                    (if (r_13.1 ++ ([10] : Str)).length + (r_13.2.1).length ≤ 9223372036854775807 then
                     (if (s ++ ([10] : Str)).length + (t).length ≤ 9223372036854775807 then
                      (some (((r_13.1 ++ ([10] : Str)) ++ r_13.2.1) == ((s ++ ([10] : Str)) ++ t)))
                     else none)
                    else none)
                   else none)
                  else
                   (some false)))
                else
                 (some false))
               else
                (some false))
              else
               (some false))))
           else none))
         else none))
       else none)
      else none)))
   else none)))
theorem d6 (s : Str) (t : Str) (r : Bool) (hF : F6 s t = some r) : DFun Tryd.prog gE 6 [AV.str s, AV.str t] (AV.bool r) := by
 unfold F6 at hF
 refine bD k6 rfl ?_
 have hs : SH [] [] := SH.nil
 generalize ([] : Store) = st at hs ⊢
 obtain ⟨r_1, g_2, hF⟩ := bind_some hF
 refine rn 1 rfl ?_
 refine df (d13 _ g_2) rfl ?_
 refine rn 1 rfl ?_
 refine ci hF rfl (fun c_3 hF => ?_) (fun c_3 hF => ?_)
 · refine rn 1 rfl ?_
   cases hF
   exact rD (rlt rl0) rfl
 · obtain ⟨g_4, hF⟩ := grd_some hF
   refine rn 1 rfl ?_
   refine W.o (e_str rfl rfl (op_cat _ _ g_4)) ?_
   obtain ⟨r_5, g_6, hF⟩ := bind_some hF
   refine rn 2 rfl ?_
   refine cl (ale rfl) (d14 (s ++ ([10] : Str)) _ g_6 _ _ _ hs fun st b_7 hs => ?_)
   obtain ⟨r_8, g_9, hF⟩ := bind_some hF
   refine rn 1 rfl ?_
   refine df (dfun_own (fun st L K hs hK => d14 t _ g_9 K L st hs hK)) rfl ?_
   obtain ⟨g_10, hF⟩ := grd_some hF
   refine ap (ys := ls r_8) hs 0 rfl rfl (ae_rd (rd_V rfl)) g_10 (fun _ => rfl) fun st b_11 hs => ?_
   obtain ⟨g_12, hF⟩ := grd_some hF
   refine rn 3 rfl ?_
   refine W.o (e_str rfl rfl (op_cat _ _ g_12)) ?_
   obtain ⟨r_13, g_14, hF⟩ := bind_some hF
   refine df (d17 ((s ++ ([10] : Str)) ++ t) _ g_14) rfl ?_
   obtain ⟨g_15, hF⟩ := grd_some hF
   refine rn 9 rfl ?_
   refine W.o (e_str rfl rfl (op_cat _ _ g_15)) ?_
   obtain ⟨r_16, g_17, hF⟩ := bind_some hF
   refine df (dfun_own (fun st L K hs hK => d16 ((s ++ ([10] : Str)) ++ t) _ g_17 K L st hs hK)) rfl ?_
   obtain ⟨g_18, hF⟩ := grd_some hF
   refine rn 3 rfl ?_
   refine W.o (e_str rfl rfl (op_cat _ _ g_18)) ?_
   obtain ⟨r_19, g_20, hF⟩ := bind_some hF
   refine df (dfun_own (fun st L K hs hK => d14 ((s ++ ([10] : Str)) ++ t) _ g_20 K L st hs hK)) rfl ?_
   obtain ⟨r_21, g_22, hF⟩ := bind_some hF
   refine rn 1 rfl ?_
   refine df' (d15 r_19 (sapp r_5 (ls r_8)) _ g_22) (ds := [slV 2 v25 r_19, slV 2 v25 (sapp r_5 (ls r_8))]) (dsl_cons (dsv (v := slV 2 v25 r_19)) (dsl_cons (dsw (es := 2) (f := v25) (o := sapp r_5 (ls r_8)) (id := b_11)) dsl_nil)) ?_
   refine rn 1 rfl ?_
   refine bi hF (fun c_23 hF => ?_) (fun c_23 hF => ?_)
   · refine wfx 37 rfl c_23 ?_
     refine rn 3 rfl ?_
     refine bi hF (fun c_24 hF => ?_) (fun c_24 hF => ?_)
     · refine wfx 40 rfl c_24 ?_
       refine rn 1 rfl ?_
       refine W.on rfl rfl ?_
       refine W.o (e_len (rd_V rfl)) ?_
       refine rn 3 rfl ?_
       refine bi hF (fun c_25 hF => ?_) (fun c_25 hF => ?_)
       · refine wfx 45 rfl c_25 ?_
         obtain ⟨v_26, g_27, hF⟩ := bind_some hF
         refine rn 2 rfl ?_
         refine W.on rfl rfl ?_
         refine W.o (e_iaddrL (rd_V rfl) rfl g_27) ?_
         refine W.on rfl rfl ?_
         refine W.o (e_faddrD rfl) ?_
         refine W.on rfl rfl ?_
         refine W.o (l1D rfl rfl) ?_
         refine rn 3 rfl ?_
         refine bi hF (fun c_28 hF => ?_) (fun c_28 hF => ?_)
         · refine wfx 53 rfl c_28 ?_
           obtain ⟨g_29, hF⟩ := grd_some hF
           refine rn 1 rfl ?_
           refine W.on rfl rfl ?_
           refine W.o (e_str rfl rfl (op_cat _ _ g_29)) ?_
           obtain ⟨g_30, hF⟩ := grd_some hF
           refine rn 1 rfl ?_
           refine W.on rfl rfl ?_
           refine W.o (e_str rfl rfl (op_cat _ _ g_30)) ?_
           obtain ⟨g_31, hF⟩ := grd_some hF
           refine rn 2 rfl ?_
           refine W.on rfl rfl ?_
           refine W.o (e_str rfl rfl (op_cat _ _ g_31)) ?_
           refine rn 3 rfl ?_
           cases hF
           exact rD (rlt rl0) rfl
         · refine wfx 53 rfl c_28 ?_
           refine rn 10 rfl ?_
           cases hF
           exact rD (rlt rl0) rfl
       · refine wfx 45 rfl c_25 ?_
         refine rn 18 rfl ?_
         cases hF
         exact rD (rlt rl0) rfl
     · refine wfx 40 rfl c_24 ?_
       refine rn 23 rfl ?_
       cases hF
       exact rD (rlt rl0) rfl
   · refine wfx 37 rfl c_23 ?_
     refine rn 26 rfl ?_
     cases hF
     exact rD (rlt rl0) rfl
/-! ### 46: paddock/paddockref01.Told -/
def C46_27 : ACode := .cond 10 (.s (.ops [q 2 (.mv (.c (.str [92, 102])))]) .ret) (.s (.ops [q 13 (.binI .eql 3 (ku 10)), q 12 (.mv 13)]) (.cond 12 (.s (.ops [q 2 (.mv (.c (.str [92, 110])))]) .ret) (.s (.ops [q 15 (.binI .eql 3 (ku 13)), q 14 (.mv 15)]) (.cond 14 (.s (.ops [q 2 (.mv (.c (.str [92, 114])))]) .ret) (.s (.ops [q 17 (.binI .eql 3 (ku 9)), q 16 (.mv 17)]) (.cond 16 (.s (.ops [q 2 (.mv (.c (.str [92, 116])))]) .ret) (.s (.ops [q 19 (.binI .eql 3 (ku 11)), q 18 (.mv 19)]) (.cond 18 (.s (.ops [q 2 (.mv (.c (.str [92, 118])))]) .ret) .skip))))))))
def C46_64 : ACode := .s (.ops [q 29 (.mv 0), q 30 (.binI .quo 29 (ku 64)), q 31 (.binI .add (ku 48) 30), q 32 (.mv 0), q 33 (.binI .quo 32 (ku 8)), q 34 (.binI .rem 33 (ku 8)), q 35 (.binI .add (ku 48) 34), q 36 (.mv 0), q 37 (.binI .rem 36 (ku 8)), q 38 (.binI .add (ku 48) 37), q 39 (.bslice 1 4 false [(.int .u8 0)] [(0, (1, (ku 92))), (1, (1, 31)), (2, (1, 35)), (3, (1, 38))] false), q 40 (.b2s 39), q 2 (.mv 40)]) .ret
def C46_1 : ACode := .s (.ops [q 2 (.mv (.c (.str [])))]) (.s (.s (.ops [q 3 (.mv 0)]) (.block 0 (.s (.ops [q 5 (.binI .eql 3 (ku 92)), q 4 (.mv 5)]) (.cond 4 (.s (.ops [q 2 (.mv (.c (.str [92, 92])))]) .ret) (.s (.ops [q 7 (.binI .eql 3 (ku 7)), q 6 (.mv 7)]) (.cond 6 (.s (.ops [q 2 (.mv (.c (.str [92, 97])))]) .ret) (.s (.ops [q 9 (.binI .eql 3 (ku 8)), q 8 (.mv 9)]) (.cond 8 (.s (.ops [q 2 (.mv (.c (.str [92, 98])))]) .ret) (.s (.ops [q 11 (.binI .eql 3 (ku 12)), q 10 (.mv 11)]) C46_27))))))))) (.s (.s (.ops [q 20 (.mv 0), q 21 (.binI .geq 20 (ku 32)), q 22 (.mv 21), (q 23 (.mv 0)).y 22, (q 24 (.binI .lss 23 (ku 127))).y 22, q 25 (.pick 22 24 (.c (.bool false)))]) (.cond 25 (.s (.ops [q 26 (.mv 0), q 27 (.bslice 1 1 false [(.int .u8 0)] [(0, (1, 26))] false), q 28 (.b2s 27), q 2 (.mv 28)]) .ret) .skip)) C46_64))
def R46 : List RA := [(.tmp 2)]
theorem k46 : compF Tryd.prog (muL []) 46 = some ⟨41, C46_1, R46⟩ := by kernel_rfl
noncomputable abbrev X46 (r : Str) : Cx := cD Tryd.prog gE 41 R46 (AV.str r)
inductive St46 where
 | p1 (c : Int)
noncomputable def G46 : St46 → Option Str
 | .p1 c =>
  (some (toBs (ls (some ([92, IntKind.wrap .u8 (48 + (IntKind.wrap .u8 (Int.tdiv c 64))), IntKind.wrap .u8 (48 + (Int.tmod (IntKind.wrap .u8 (Int.tdiv c 8)) 8)), IntKind.wrap .u8 (48 + (Int.tmod c 8))] : List Int)))))
def M46 (x : St46) (r : Str) : Prop := match x with
 | .p1 c => ∀ (tm : Fr) (st : Store), Frm tm [(0, AV.int .u8 c)] → SH st [] → W (X46 r) [.code C46_64] tm st
theorem w46 : ∀ (x : St46) (r : Str), G46 x = some r → M46 x r := by
 intro x r hF
 cases x with
 | p1 c =>
  dsimp only [G46] at hF
  intro tm st hf hs
  refine en hf ?_
  refine rn 1 rfl ?_
  refine W.o (e_bin rfl rfl (op_quo _ _ _ (by decide))) ?_
  refine rn 2 rfl ?_
  refine W.o (e_bin rfl rfl (op_quo _ _ _ (by decide))) ?_
  refine W.o (e_bin rfl rfl (op_rem _ _ _ (by decide))) ?_
  refine rn 2 rfl ?_
  refine W.o (e_bin rfl rfl (op_rem _ _ _ (by decide))) ?_
  refine rn 1 rfl ?_
  refine bs (f := AV.int .u8) ([92, IntKind.wrap .u8 (48 + (IntKind.wrap .u8 (Int.tdiv c 64))), IntKind.wrap .u8 (48 + (Int.tmod (IntKind.wrap .u8 (Int.tdiv c 8)) 8)), IntKind.wrap .u8 (48 + (Int.tmod c 8))] : List Int) hs rfl rfl rfl rfl fun st b_12 hs => ?_
  refine W.o (e_b2s (rd_W (o := (some ([92, IntKind.wrap .u8 (48 + (IntKind.wrap .u8 (Int.tdiv c 64))), IntKind.wrap .u8 (48 + (Int.tmod (IntKind.wrap .u8 (Int.tdiv c 8)) 8)), IntKind.wrap .u8 (48 + (Int.tmod c 8))] : List Int))) (id := b_12) rfl)) ?_
  refine rn 1 rfl ?_
  cases hF
  exact rD (rlt rl0) rfl
noncomputable def F46 (c : Int) : Option Str :=
 (if (c == 92) = true then
  (some ([92, 92] : Str))
 else
  (if (c == 7) = true then
   (some ([92, 97] : Str))
  else
   (if (c == 8) = true then
    (some ([92, 98] : Str))
   else
    (if (c == 12) = true then
     (some ([92, 102] : Str))
    else
     (if (c == 10) = true then
      (some ([92, 110] : Str))
     else
      (if (c == 13) = true then
       (some ([92, 114] : Str))
      else
       (if (c == 9) = true then
        (some ([92, 116] : Str))
       else
        (if (c == 11) = true then
         (some ([92, 118] : Str))
        else
         (if (decide (c ≥ 32)) = true then
          (if (decide (c < 127)) = true then
           (some (toBs (ls (some ([c] : List Int)))))
          else
           (G46 (.p1 c)))
         else
          (G46 (.p1 c)))))))))))
theorem d46 (c : Int) (r : Str) (hF : F46 c = some r) : DFun Tryd.prog gE 46 [AV.int .u8 c] (AV.str r) := by
 unfold F46 at hF
 refine bD k46 rfl ?_
 have hs : SH [] [] := SH.nil
 generalize ([] : Store) = st at hs ⊢
 refine rn 4 rfl ?_
 refine ci hF rfl (fun c_1 hF => ?_) (fun c_1 hF => ?_)
 · refine rn 1 rfl ?_
   cases hF
   exact rD (rlt rl0) rfl
 · refine rn 2 rfl ?_
   refine ci hF rfl (fun c_2 hF => ?_) (fun c_2 hF => ?_)
   · refine rn 1 rfl ?_
     cases hF
     exact rD (rlt rl0) rfl
   · refine rn 2 rfl ?_
     refine ci hF rfl (fun c_3 hF => ?_) (fun c_3 hF => ?_)
     · refine rn 1 rfl ?_
       cases hF
       exact rD (rlt rl0) rfl
     · refine rn 2 rfl ?_
       refine ci hF rfl (fun c_4 hF => ?_) (fun c_4 hF => ?_)
       · refine rn 1 rfl ?_
         cases hF
         exact rD (rlt rl0) rfl
       · refine rn 2 rfl ?_
         refine ci hF rfl (fun c_5 hF => ?_) (fun c_5 hF => ?_)
         · refine rn 1 rfl ?_
           cases hF
           exact rD (rlt rl0) rfl
         · refine rn 2 rfl ?_
           refine ci hF rfl (fun c_6 hF => ?_) (fun c_6 hF => ?_)
           · refine rn 1 rfl ?_
             cases hF
             exact rD (rlt rl0) rfl
           · refine rn 2 rfl ?_
             refine ci hF rfl (fun c_7 hF => ?_) (fun c_7 hF => ?_)
             · refine rn 1 rfl ?_
               cases hF
               exact rD (rlt rl0) rfl
             · refine rn 2 rfl ?_
               refine ci hF rfl (fun c_8 hF => ?_) (fun c_8 hF => ?_)
               · refine rn 1 rfl ?_
                 cases hF
                 exact rD (rlt rl0) rfl
               · refine rn 3 rfl ?_
                 refine bi hF (fun c_9 hF => ?_) (fun c_9 hF => ?_)
                 · refine wfx 22 rfl c_9 ?_
                   refine rn 3 rfl ?_
                   refine ci hF rfl (fun c_10 hF => ?_) (fun c_10 hF => ?_)
                   · refine rn 1 rfl ?_
                     refine bs (f := AV.int .u8) ([c] : List Int) hs rfl rfl rfl rfl fun st b_11 hs => ?_
                     refine W.o (e_b2s (rd_W (o := (some ([c] : List Int))) (id := b_11) rfl)) ?_
                     refine rn 1 rfl ?_
                     cases hF
                     exact rD (rlt rl0) rfl
                   · refine rj 0 1 rfl ?_
                     exact w46 (.p1 c) _ hF _ _ ⟨rfl, trivial⟩ hs
                 · refine wfx 22 rfl c_9 ?_
                   refine rn 3 rfl ?_
                   refine cf rfl rfl ?_
                   refine rj 0 1 rfl ?_
                   exact w46 (.p1 c) _ hF _ _ ⟨rfl, trivial⟩ hs
/-! ### 57: paddock/paddockref01.some -/
def C57_21 : ACode := .s (.ops [q 24 (.mv 8), q 25 (.lenS 24), q 26 (.binI .neq 25 (ki 4))]) (.cond 26 (.exit 1) .skip)
def C57_33 : ACode := .s (.s (.ops [q 28 (.mv 10), q 29 (.mv 2), q 30 (.binI .gtr 28 29)]) (.cond 30 .skip (.exit 2))) (.s (.block 3 (.ops [q 33 (.mv 9), q 34 (.binI .quo 33 (ki 8)), q 9 (.mv 34)])) (.ops [q 31 (.mv 10), q 32 (.binI .sub 31 (ki 1)), q 10 (.mv 32)]))
def C57_43 : ACode := .s (.ops [q 35 (.mv 9), q 36 (.mv 0), q 37 (.binI .eql 35 36)]) (.cond 37 (.s (.ops [q 6 (.mv (.c (.bool true)))]) .ret) .skip)
def C57_26 : ACode := .s (.ops [q 27 (.mv 7), q 9 (.mv 27)]) (.s (.s (.ops [q 10 (.mv (ki 2))]) (.block 2 (.loop C57_33))) C57_43)
def C57_50 : ACode := .ops [q 19 (.mv 7), q 20 (.binI .add 19 (ki 1)), q 7 (.mv 20)]
def C57_10 : ACode := .s (.s (.ops [q 17 (.mv 7), q 18 (.binI .lss 17 (ki 256))]) (.cond 18 .skip (.exit 0))) (.s (.block 1 (.s (.ops [q 21 (.mv 7), q 22 (.cvI .u8 21), qc 23 46 [22], q 8 (.mv 23)]) (.s C57_21 C57_26))) C57_50)
def C57_51 : ACode := .s (.ops [q 6 (.mv (.c (.bool false)))]) .ret
def C57_1 : ACode := .s (.ops [q 6 (.mv (.c (.bool false)))]) (.s (.ops [q 11 (.mv 0), q 12 (.binI .mul (ki 8) 11), q 13 (.mv 1), q 14 (.binI .sub 13 (ku 48)), q 15 (.cvI .i64 14), q 16 (.binI .add 12 15), q 0 (.mv 16)]) (.s (.s (.ops [q 7 (.mv (ki 0))]) (.block 0 (.loop C57_10))) C57_51))
def R57 : List RA := [(.tmp 6)]
theorem k57 : compF Tryd.prog (muL []) 57 = some ⟨38, C57_1, R57⟩ := by kernel_rfl
noncomputable abbrev X57 (r : Bool) : Cx := cD Tryd.prog gE 38 R57 (AV.bool r)
inductive St57 where
 | p1 (n : Int) (k : Int) (b : Int)
 | p2 (n : Int) (k : Int) (b : Int) (left : Int) (j : Int)
noncomputable def G57 : St57 → Option Bool
 | .p1 n k b =>
  (if (decide (b < 256)) = true then
   (F46 (IntKind.wrap .u8 b) >>= fun r_2 =>
    (if (((r_2).length : Int) != 4) = true then
     (G57 (.p1 n k (IntKind.wrap .i64 (b + 1))))
    else
     (G57 (.p2 n k b b 2))))
  else
   (some false))
 | .p2 n k b left j =>
  (if (decide (j > k)) = true then
   (G57 (.p2 n k b (IntKind.wrap .i64 (Int.tdiv left 8)) (IntKind.wrap .i64 (j - 1))))
  else
   (if (left == n) = true then
    (some true)
   else
    (G57 (.p1 n k (IntKind.wrap .i64 (b + 1))))))
 partial_fixpoint
def M57 (x : St57) (r : Bool) : Prop := match x with
 | .p1 n k b => ∀ (tm : Fr) (st : Store), Frm tm [(0, AV.int .i64 n), (2, AV.int .i64 k), (7, AV.int .i64 b)] → SH st [] → W (X57 r) [.lp C57_10, .blk 0, .code C57_51] tm st
 | .p2 n k b left j => ∀ (tm : Fr) (st : Store), Frm tm [(0, AV.int .i64 n), (2, AV.int .i64 k), (7, AV.int .i64 b), (9, AV.int .i64 left), (10, AV.int .i64 j)] → SH st [] → W (X57 r) [.lp C57_33, .blk 2, .code C57_43, .blk 1, .code C57_50, .lp C57_10, .blk 0, .code C57_51] tm st
theorem w57 : ∀ (x : St57) (r : Bool), G57 x = some r → M57 x r := by
 refine G57.partial_correctness M57 ?_
 intro g ih x r hF
 cases x with
 | p1 n k b =>
  dsimp only at hF
  intro tm st hf hs
  refine en hf ?_
  refine lp ?_
  refine rn 2 rfl ?_
  refine ci hF rfl (fun c_1 hF => ?_) (fun c_1 hF => ?_)
  · obtain ⟨r_2, g_3, hF⟩ := bind_some hF
    refine rn 2 rfl ?_
    refine df (d46 (IntKind.wrap .u8 b) _ g_3) rfl ?_
    refine rn 4 rfl ?_
    refine ci hF rfl (fun c_4 hF => ?_) (fun c_4 hF => ?_)
    · refine rn 3 rfl ?_
      exact ih (.p1 n k (IntKind.wrap .i64 (b + 1))) _ hF _ _ ⟨rfl, rfl, rfl, trivial⟩ hs
    · refine rn 3 rfl ?_
      exact ih (.p2 n k b b 2) _ hF _ _ ⟨rfl, rfl, rfl, rfl, rfl, trivial⟩ hs
  · refine rn 1 rfl ?_
    cases hF
    exact rD (rlt rl0) rfl
 | p2 n k b left j =>
  dsimp only at hF
  intro tm st hf hs
  refine en hf ?_
  refine lp ?_
  refine rn 3 rfl ?_
  refine ci hF rfl (fun c_5 hF => ?_) (fun c_5 hF => ?_)
  · refine rn 1 rfl ?_
    refine W.o (e_bin rfl rfl (op_quo _ _ _ (by decide))) ?_
    refine rn 4 rfl ?_
    exact ih (.p2 n k b (IntKind.wrap .i64 (Int.tdiv left 8)) (IntKind.wrap .i64 (j - 1))) _ hF _ _ ⟨rfl, rfl, rfl, rfl, rfl, trivial⟩ hs
  · refine rn 3 rfl ?_
    refine ci hF rfl (fun c_6 hF => ?_) (fun c_6 hF => ?_)
    · refine rn 1 rfl ?_
      cases hF
      exact rD (rlt rl0) rfl
    · refine rn 3 rfl ?_
      exact ih (.p1 n k (IntKind.wrap .i64 (b + 1))) _ hF _ _ ⟨rfl, rfl, rfl, trivial⟩ hs
noncomputable def F57 (n : Int) (c : Int) (k : Int) : Option Bool :=
 (G57 (.p1 (IntKind.wrap .i64 ((IntKind.wrap .i64 (8 * n)) + (IntKind.wrap .i64 (IntKind.wrap .u8 (c - 48))))) k 0))
theorem d57 (n : Int) (c : Int) (k : Int) (r : Bool) (hF : F57 n c k = some r) : DFun Tryd.prog gE 57 [AV.int .i64 n, AV.int .u8 c, AV.int .i64 k] (AV.bool r) := by
 unfold F57 at hF
 refine bD k57 rfl ?_
 have hs : SH [] [] := SH.nil
 generalize ([] : Store) = st at hs ⊢
 refine rn 9 rfl ?_
 exact w57 (.p1 (IntKind.wrap .i64 ((IntKind.wrap .i64 (8 * n)) + (IntKind.wrap .i64 (IntKind.wrap .u8 (c - 48))))) k 0) _ hF _ _ ⟨rfl, rfl, rfl, trivial⟩ hs
/-! ### 44: paddock/paddockref01.escape -/
def C44_28 : ACode := .s (.draw [] 0 0 [q 26 (.mv 0), q 27 (.mv 1), q 28 (.ixS 26 27), q 29 (.mv 7), q 30 (.mv 9), q 31 (.ixS 29 30), q 32 (.binI .eql 28 31)] []) (.cond 32 (.s (.ops [q 33 (.mv 8), q 34 (.mv 9), q 35 (.iaddrL 1 33 34), q 36 (.load1 35), q 37 (.mv 1), q 38 (.binI .add 37 (ki 1)), q 4 (.mv 36), q 5 (.mv 38), q 6 (.mv (.c (.bool true)))]) .ret) .skip)
def C44_20 : ACode := .s (.s (.ops [q 20 (.mv 9), q 21 (.mv 7), q 22 (.lenS 21), q 23 (.binI .lss 20 22)]) (.cond 23 .skip (.exit 0))) (.s (.block 1 C44_28) (.ops [q 24 (.mv 9), q 25 (.binI .add 24 (ki 1)), q 9 (.mv 25)]))
def C44_44 : ACode := .s (.ops [q 39 (.mv 11), q 40 (.binI .lss 39 (ki 3))]) (.cond 40 .skip (.exit 2))
def C44_65 : ACode := .s (.ops [q 69 (.mv 1), q 70 (.mv 11), q 71 (.binI .add 69 70), q 4 (.mv (ku 0)), q 5 (.mv 71), q 6 (.mv (.c (.bool false)))]) .ret
def C44_69 : ACode := .ops [q 72 (.mv 10), q 73 (.binI .mul (ki 8) 72), q 74 (.mv 12), q 75 (.binI .sub 74 (ku 48)), q 76 (.cvI .i64 75), q 77 (.binI .add 73 76), q 10 (.mv 77)]
def C44_70 : ACode := .ops [q 41 (.mv 11), q 42 (.binI .add 41 (ki 1)), q 11 (.mv 42)]
def C44_49 : ACode := .s (.block 3 (.s (.s (.ops [q 43 (.mv 1), q 44 (.mv 11), q 45 (.binI .add 43 44), q 46 (.mv 0), q 47 (.lenS 46), q 48 (.binI .geq 45 47)]) (.cond 48 (.s (.ops [q 49 (.mv 0), q 50 (.lenS 49), q 4 (.mv (ku 0)), q 5 (.mv 50), q 6 (.mv (.c (.bool false)))]) .ret) .skip)) (.s (.ops [q 51 (.mv 0), q 52 (.mv 1), q 53 (.mv 11), q 54 (.binI .add 52 53), q 55 (.ixS 51 54), q 12 (.mv 55)]) (.s (.s (.ops [q 56 (.mv 12), q 57 (.binI .lss 56 (ku 48)), q 58 (.mv 57), (q 59 (.mv 12)).n 58, (q 60 (.binI .gtr 59 (ku 55))).n 58, q 61 (.pick 58 (.c (.bool true)) 60), q 62 (.mv 61), (q 63 (.mv 10)).n 62, (q 64 (.mv 12)).n 62, (q 65 (.mv 11)).n 62, (qc 66 57 [63, 64, 65]).n 62, (q 67 (.un .not 66)).n 62, q 68 (.pick 62 (.c (.bool true)) 67)]) (.cond 68 C44_65 .skip)) C44_69)))) C44_70
def C44_43 : ACode := .s C44_44 C44_49
def C44_71 : ACode := .s (.ops [q 78 (.mv 10), q 79 (.cvI .u8 78), q 80 (.mv 1), q 81 (.binI .add 80 (ki 3)), q 4 (.mv 79), q 5 (.mv 81), q 6 (.mv (.c (.bool true)))]) .ret
def C44_36 : ACode := .s (.ops [q 10 (.mv (ki 0))]) (.s (.s (.ops [q 11 (.mv (ki 0))]) (.block 2 (.loop C44_43))) C44_71)
def C44_1 : ACode := .s (.ops [q 4 (.mv (ku 0)), q 5 (.mv (ki 0)), q 6 (.mv (.c (.bool false)))]) (.s (.s (.ops [q 13 (.mv 1), q 14 (.mv 0), q 15 (.lenS 14), q 16 (.binI .geq 13 15)]) (.cond 16 (.s (.ops [q 17 (.mv 0), q 18 (.lenS 17), q 4 (.mv (ku 0)), q 5 (.mv 18), q 6 (.mv (.c (.bool false)))]) .ret) .skip)) (.s (.ops [q 7 (.mv (.c (.str [92, 97, 98, 102, 110, 114, 116, 118])))]) (.s (.ops [q 19 (.bslice 1 8 false [(.int .u8 0)] [(0, (1, (ku 92))), (1, (1, (ku 7))), (2, (1, (ku 8))), (3, (1, (ku 12))), (4, (1, (ku 10))), (5, (1, (ku 13))), (6, (1, (ku 9))), (7, (1, (ku 11)))] false), q 8 (.mv 19)]) (.s (.s (.ops [q 9 (.mv (ki 0))]) (.block 0 (.loop C44_20))) C44_36))))
def R44 : List RA := [(.tmp 4), (.tmp 5), (.tmp 6)]
theorem k44 : compF Tryd.prog (muL []) 44 = some ⟨82, C44_1, R44⟩ := by kernel_rfl
noncomputable abbrev X44 (r : Int × Int × Bool) : Cx := cD Tryd.prog gE 82 R44 (AV.tup [AV.int .u8 r.1, AV.int .i64 r.2.1, AV.bool r.2.2])
inductive St44 where
 | p1 (s : Str) (i : Int) (plain : Str) (means : Sl Int) (k : Int)
 | p2 (s : Str) (i : Int) (n : Int) (k : Int)
 | p3 (i : Int) (k : Int)
noncomputable def G44 : St44 → Option (Int × Int × Bool)
 | .p1 s i plain means k =>
  (if (decide (k < ((plain).length : Int))) = true then
   (ix s i >>= fun b_4 =>
    (ix plain k >>= fun b_6 =>
     (if ((b_4.toNat : Int) == (b_6.toNat : Int)) = true then
      (ix (ls means) k >>= fun v_9 =>
       (some (v_9, IntKind.wrap .i64 (i + 1), true)))
     else
      (G44 (.p1 s i plain means (IntKind.wrap .i64 (k + 1)))))))
  else
   (G44 (.p2 s i 0 0)))
 | .p2 s i n k =>
  (if (decide (k < 3)) = true then
   (if (decide ((IntKind.wrap .i64 (i + k)) ≥ ((s).length : Int))) = true then
    (some (0, ((s).length : Int), false))
   else
    (ix s (IntKind.wrap .i64 (i + k)) >>= fun b_13 =>
     (if (decide ((b_13.toNat : Int) < 48)) = true then
      (G44 (.p3 i k))
     else
      (if (decide ((b_13.toNat : Int) > 55)) = true then
       (G44 (.p3 i k))
      else
       (F57 n (b_13.toNat : Int) k >>= fun r_17 =>
        (if (!r_17) = true then
         (G44 (.p3 i k))
        else
         (G44 (.p2 s i (IntKind.wrap .i64 ((IntKind.wrap .i64 (8 * n)) + (IntKind.wrap .i64 (IntKind.wrap .u8 ((b_13.toNat : Int) - 48))))) (IntKind.wrap .i64 (k + 1))))))))))
  else
   (some (IntKind.wrap .u8 n, IntKind.wrap .i64 (i + 3), true)))
 | .p3 i k =>
  (some (0, IntKind.wrap .i64 (i + k), false))
 partial_fixpoint
def M44 (x : St44) (r : Int × Int × Bool) : Prop := match x with
 | .p1 s i plain means k => ∀ (tm : Fr) (st : Store), Frm tm [(0, AV.str s), (1, AV.int .i64 i), (7, AV.str plain), (8, slV 1 (AV.int .u8) means), (9, AV.int .i64 k)] → SH st [] → W (X44 r) [.lp C44_20, .blk 0, .code C44_36] tm st
 | .p2 s i n k => ∀ (tm : Fr) (st : Store), Frm tm [(0, AV.str s), (1, AV.int .i64 i), (10, AV.int .i64 n), (11, AV.int .i64 k)] → SH st [] → W (X44 r) [.lp C44_43, .blk 2, .code C44_71] tm st
 | .p3 i k => ∀ (tm : Fr) (st : Store), Frm tm [(1, AV.int .i64 i), (11, AV.int .i64 k)] → SH st [] → W (X44 r) [.code C44_65, .code C44_69, .blk 3, .code C44_70, .lp C44_43, .blk 2, .code C44_71] tm st
theorem w44 : ∀ (x : St44) (r : Int × Int × Bool), G44 x = some r → M44 x r := by
 refine G44.partial_correctness M44 ?_
 intro g ih x r hF
 cases x with
 | p1 s i plain means k =>
  dsimp only at hF
  intro tm st hf hs
  refine en hf ?_
  refine lp ?_
  refine rn 4 rfl ?_
  refine ci hF rfl (fun c_3 hF => ?_) (fun c_3 hF => ?_)
  · refine rn 0 rfl ?_
    have h0 := hs
    refine dr0 ?_
    obtain ⟨b_4, g_5, hF⟩ := bind_some hF
    refine dn 2 rfl ?_
    refine de rfl (e_ixS rfl rfl g_5) ?_
    obtain ⟨b_6, g_7, hF⟩ := bind_some hF
    refine dn 2 rfl ?_
    refine de rfl (e_ixS rfl rfl g_7) ?_
    refine dn 1 rfl ?_
    refine dz ?_
    refine rn 0 rfl ?_
    refine ci hF rfl (fun c_8 hF => ?_) (fun c_8 hF => ?_)
    · obtain ⟨v_9, g_10, hF⟩ := bind_some hF
      refine rn 2 rfl ?_
      refine W.o (e_iaddrL (rd_V rfl) rfl g_10) ?_
      refine W.o (l1D rfl rfl) ?_
      refine rn 5 rfl ?_
      cases hF
      exact rD (rlt (rlt (rlt rl0))) rfl
    · refine rn 3 rfl ?_
      exact ih (.p1 s i plain means (IntKind.wrap .i64 (k + 1))) _ hF _ _ ⟨rfl, rfl, rfl, rfl, rfl, trivial⟩ hs
  · refine rn 2 rfl ?_
    exact ih (.p2 s i 0 0) _ hF _ _ ⟨rfl, rfl, rfl, rfl, trivial⟩ hs
 | p2 s i n k =>
  dsimp only at hF
  intro tm st hf hs
  refine en hf ?_
  refine lp ?_
  refine rn 2 rfl ?_
  refine ci hF rfl (fun c_11 hF => ?_) (fun c_11 hF => ?_)
  · refine rn 6 rfl ?_
    refine ci hF rfl (fun c_12 hF => ?_) (fun c_12 hF => ?_)
    · refine rn 5 rfl ?_
      cases hF
      exact rD (rlt (rlt (rlt rl0))) rfl
    · obtain ⟨b_13, g_14, hF⟩ := bind_some hF
      refine rn 4 rfl ?_
      refine W.o (e_ixS rfl rfl g_14) ?_
      refine rn 4 rfl ?_
      refine bi hF (fun c_15 hF => ?_) (fun c_15 hF => ?_)
      · refine wfx 58 rfl c_15 ?_
        refine rn 10 rfl ?_
        refine ct rfl rfl ?_
        exact ih (.p3 i k) _ hF _ _ ⟨rfl, rfl, trivial⟩ hs
      · refine wfx 58 rfl c_15 ?_
        refine rn 4 rfl ?_
        refine bi hF (fun c_16 hF => ?_) (fun c_16 hF => ?_)
        · refine wfx 62 rfl c_16 ?_
          refine rn 6 rfl ?_
          refine ct rfl rfl ?_
          exact ih (.p3 i k) _ hF _ _ ⟨rfl, rfl, trivial⟩ hs
        · refine wfx 62 rfl c_16 ?_
          obtain ⟨r_17, g_18, hF⟩ := bind_some hF
          refine rn 3 rfl ?_
          refine W.on rfl rfl ?_
          refine df (d57 n (b_13.toNat : Int) k _ g_18) rfl ?_
          refine rn 2 rfl ?_
          refine ci hF rfl (fun c_19 hF => ?_) (fun c_19 hF => ?_)
          · exact ih (.p3 i k) _ hF _ _ ⟨rfl, rfl, trivial⟩ hs
          · refine rn 10 rfl ?_
            exact ih (.p2 s i (IntKind.wrap .i64 ((IntKind.wrap .i64 (8 * n)) + (IntKind.wrap .i64 (IntKind.wrap .u8 ((b_13.toNat : Int) - 48))))) (IntKind.wrap .i64 (k + 1))) _ hF _ _ ⟨rfl, rfl, rfl, rfl, trivial⟩ hs
  · refine rn 7 rfl ?_
    cases hF
    exact rD (rlt (rlt (rlt rl0))) rfl
 | p3 i k =>
  dsimp only at hF
  intro tm st hf hs
  refine en hf ?_
  refine rn 6 rfl ?_
  cases hF
  exact rD (rlt (rlt (rlt rl0))) rfl
noncomputable def F44 (s : Str) (i : Int) : Option (Int × Int × Bool) :=
 (if (decide (i ≥ ((s).length : Int))) = true then
  (some (0, ((s).length : Int), false))
 else
  (G44 (.p1 s i ([92, 97, 98, 102, 110, 114, 116, 118] : Str) (some ([92, 7, 8, 12, 10, 13, 9, 11] : List Int)) 0)))
theorem d44 (s : Str) (i : Int) (r : Int × Int × Bool) (hF : F44 s i = some r) : DFun Tryd.prog gE 44 [AV.str s, AV.int .i64 i] (AV.tup [AV.int .u8 r.1, AV.int .i64 r.2.1, AV.bool r.2.2]) := by
 unfold F44 at hF
 refine bD k44 rfl ?_
 have hs : SH [] [] := SH.nil
 generalize ([] : Store) = st at hs ⊢
 refine rn 7 rfl ?_
 refine ci hF rfl (fun c_1 hF => ?_) (fun c_1 hF => ?_)
 · refine rn 5 rfl ?_
   cases hF
   exact rD (rlt (rlt (rlt rl0))) rfl
 · refine rn 1 rfl ?_
   refine bs (f := AV.int .u8) ([92, 7, 8, 12, 10, 13, 9, 11] : List Int) hs rfl rfl rfl rfl fun st b_2 hs => ?_
   refine rn 2 rfl ?_
   refine wkl (weak_strp (S := [8]) ⟨(dsw (es := 1) (f := AV.int .u8) (o := (some ([92, 7, 8, 12, 10, 13, 9, 11] : List Int))) (id := b_2)).1, trivial⟩) ?_
   exact w44 (.p1 s i ([92, 97, 98, 102, 110, 114, 116, 118] : Str) (some ([92, 7, 8, 12, 10, 13, 9, 11] : List Int)) 0) _ hF _ _ ⟨rfl, rfl, rfl, (dsw (es := 1) (f := AV.int .u8) (o := (some ([92, 7, 8, 12, 10, 13, 9, 11] : List Int))) (id := b_2)).2, rfl, trivial⟩ (hs.p 1 [] rfl)
/-! ### 23: paddock/paddockref01.Unquote -/
def C23_7 : ACode := .s (.ops [q 2 (.mv (.c (.str []))), q 3 (.mv (ki 0)), q 4 (.mv (ki 10)), q 5 (.mv (ki 0))]) .ret
def C23_62 : ACode := .s (.ops [q 27 (.mv 7), q 2 (.mv (.c (.str []))), q 3 (.mv (ki 0)), q 4 (.mv (ki 10)), q 5 (.mv 27)]) .ret
def C23_40 : ACode := .s (.ops [q 58 (.mv 8), q 59 (.binI .eql 58 (ku 92)), q 57 (.mv 59)]) (.cond 57 (.s (.ops [q 61 (.mv 0), q 62 (.mv 7), q 63 (.binI .add 62 (ki 1)), qc 64 44 [61, 63], q 60 (.mv 64), q 65 (.extract 60 0), q 66 (.extract 60 1), q 67 (.extract 60 2), q 9 (.mv 65), q 10 (.mv 66), q 11 (.mv 67)]) (.s (.s (.ops [q 68 (.mv 11), q 69 (.un .not 68)]) (.cond 69 (.s (.ops [q 70 (.mv 10), q 2 (.mv (.c (.str []))), q 3 (.mv (ki 0)), q 4 (.mv (ki 10)), q 5 (.mv 70)]) .ret) .skip)) (.s (.ops [q 71 (.mv 6), q 72 (.mv 9), q 73 (.bslice 1 1 false [(.int .u8 0)] [(0, (1, 72))] false), q 74 (.app 1 1 71 73), q 6 (.mv 74)]) (.ops [q 75 (.mv 10), q 7 (.mv 75)])))) (.s (.ops [q 77 (.mv 8), q 78 (.binI .geq 77 (ku 32)), q 79 (.mv 78), (q 80 (.mv 8)).y 79, (q 81 (.binI .lss 80 (ku 127))).y 79, q 82 (.pick 79 81 (.c (.bool false))), q 76 (.mv 82)]) (.cond 76 (.s (.ops [q 83 (.mv 6), q 84 (.mv 8), q 85 (.bslice 1 1 false [(.int .u8 0)] [(0, (1, 84))] false), q 86 (.app 1 1 83 85), q 6 (.mv 86)]) (.ops [q 87 (.mv 7), q 88 (.binI .add 87 (ki 1)), q 7 (.mv 88)])) C23_62)))
def C23_28 : ACode := .s (.ops [q 29 (.mv 8), q 30 (.binI .eql 29 (ku 34)), q 28 (.mv 30)]) (.cond 28 (.s (.ops [q 31 (.mv 6), q 32 (.b2s 31), q 33 (.mv 7), q 34 (.binI .add 33 (ki 1)), q 2 (.mv 32), q 3 (.mv 34), q 4 (.mv (ki 0)), q 5 (.mv (ki 0))]) .ret) (.s (.ops [q 36 (.mv 8), q 37 (.binI .eql 36 (ku 92)), q 38 (.mv 37), (q 39 (.mv 7)).y 38, (q 40 (.binI .add 39 (ki 1))).y 38, (q 41 (.mv 0)).y 38, (q 42 (.lenS 41)).y 38, (q 43 (.binI .lss 40 42)).y 38, q 44 (.pick 38 43 (.c (.bool false))), q 45 (.mv 44), (q 46 (.mv 0)).y 45, (q 47 (.mv 7)).y 45, (q 48 (.binI .add 47 (ki 1))).y 45, (q 49 (.ixS 46 48)).y 45, (q 50 (.binI .eql 49 (ku 34))).y 45, q 51 (.pick 45 50 (.c (.bool false))), q 35 (.mv 51)]) (.cond 35 (.s (.ops [q 52 (.mv 6), q 53 (.bslice 1 1 false [(.int .u8 0)] [(0, (1, (ku 34)))] false), q 54 (.app 1 1 52 53), q 6 (.mv 54)]) (.ops [q 55 (.mv 7), q 56 (.binI .add 55 (ki 2)), q 7 (.mv 56)])) C23_40)))
def C23_18 : ACode := .s (.s (.ops [q 20 (.mv 7), q 21 (.mv 0), q 22 (.lenS 21), q 23 (.binI .lss 20 22)]) (.cond 23 .skip (.exit 0))) (.block 1 (.s (.ops [q 24 (.mv 0), q 25 (.mv 7), q 26 (.ixS 24 25), q 8 (.mv 26)]) (.block 2 C23_28)))
def C23_65 : ACode := .s (.ops [q 89 (.mv 0), q 90 (.lenS 89), q 2 (.mv (.c (.str []))), q 3 (.mv (ki 0)), q 4 (.mv (ki 10)), q 5 (.mv 90)]) .ret
def C23_11 : ACode := .s (.ops [q 6 (.mv (.c .nils))]) (.s (.ops [q 7 (.mv (ki 1))]) (.s (.block 0 (.loop C23_18)) C23_65))
def C23_1 : ACode := .s (.ops [q 2 (.mv (.c (.str []))), q 3 (.mv (ki 0)), q 4 (.mv (ki 0)), q 5 (.mv (ki 0))]) (.s (.s (.ops [q 12 (.mv 0), q 13 (.lenS 12), q 14 (.binI .eql 13 (ki 0)), q 15 (.mv 14), (q 16 (.mv 0)).n 15, (q 17 (.ixS 16 (ki 0))).n 15, (q 18 (.binI .neq 17 (ku 34))).n 15, q 19 (.pick 15 (.c (.bool true)) 18)]) (.cond 19 C23_7 .skip)) C23_11)
def R23 : List RA := [(.tmp 2), (.tmp 3), (.tmp 4), (.tmp 5)]
theorem k23 : compF Tryd.prog (muL []) 23 = some ⟨91, C23_1, R23⟩ := by kernel_rfl
noncomputable abbrev X23 (r : Str × Int × Int × Int) : Cx := cD Tryd.prog gE 91 R23 (AV.tup [AV.str r.1, AV.int .i64 r.2.1, AV.int .i64 r.2.2.1, AV.int .i64 r.2.2.2])
inductive St23 where
 | p1 
 | p2 (s : Str) (i : Int) (out : Sl Int)
 | p3 (s : Str) (i : Int) (c : Int) (out : Sl Int)
 | p4 (i : Int)
noncomputable def G23 : St23 → Option (Str × Int × Int × Int)
 | .p1  =>
  (some (([] : Str), 0, 10, 0))
 | .p2 s i out =>
  (if (decide (i < ((s).length : Int))) = true then
   (ix s i >>= fun b_7 =>
    (if ((b_7.toNat : Int) == 34) = true then
     (some (toBs (ls out), IntKind.wrap .i64 (i + 1), 0, 0))
    else
     (if ((b_7.toNat : Int) == 92) = true then
      (if (decide ((IntKind.wrap .i64 (i + 1)) < ((s).length : Int))) = true then
       (ix s (IntKind.wrap .i64 (i + 1)) >>= fun b_12 =>
        (if ((b_12.toNat : Int) == 34) = true then
         (if ((ls out).length + (ls (some ([34] : List Int))).length) * 1 ≤ 140737488355328 then
          (G23 (.p2 s (IntKind.wrap .i64 (i + 2)) (sapp out (ls (some ([34] : List Int))))))
         else none)
        else
         (G23 (.p3 s i (b_7.toNat : Int) out))))
      else
       (G23 (.p3 s i (b_7.toNat : Int) out)))
     else
      (G23 (.p3 s i (b_7.toNat : Int) out)))))
  else
   (some (([] : Str), 0, 10, ((s).length : Int))))
 | .p3 s i c out =>
  (if (c == 92) = true then
   (F44 s (IntKind.wrap .i64 (i + 1)) >>= fun r_19 =>
    (if (!r_19.2.2) = true then
     (some (([] : Str), 0, 10, r_19.2.1))
    else
     (if ((ls out).length + (ls (some ([r_19.1] : List Int))).length) * 1 ≤ 140737488355328 then
      (G23 (.p2 s r_19.2.1 (sapp out (ls (some ([r_19.1] : List Int))))))
     else none)))
  else
   (if (decide (c ≥ 32)) = true then
    (if (decide (c < 127)) = true then
     (if ((ls out).length + (ls (some ([c] : List Int))).length) * 1 ≤ 140737488355328 then
      (G23 (.p2 s (IntKind.wrap .i64 (i + 1)) (sapp out (ls (some ([c] : List Int))))))
     else none)
    else
     (G23 (.p4 i)))
   else
    (G23 (.p4 i))))
 | .p4 i =>
  (some (([] : Str), 0, 10, i))
 partial_fixpoint
def M23 (x : St23) (r : Str × Int × Int × Int) : Prop := match x with
 | .p1  => ∀ (tm : Fr) (st : Store), Frm tm [] → SH st [] → W (X23 r) [.code C23_7, .code C23_11] tm st
 | .p2 s i out => ∀ (tm : Fr) (st : Store) (io0 : Nat), Frm tm [(0, AV.str s), (6, ownV 1 (AV.int .u8) out io0), (7, AV.int .i64 i)] → SH st [ownA io0 out] → W (X23 r) [.lp C23_18, .blk 0, .code C23_65] tm st
 | .p3 s i c out => ∀ (tm : Fr) (st : Store) (io0 : Nat), Frm tm [(0, AV.str s), (6, ownV 1 (AV.int .u8) out io0), (7, AV.int .i64 i), (8, AV.int .u8 c)] → SH st [ownA io0 out] → W (X23 r) [.code C23_40, .blk 2, .blk 1, .lp C23_18, .blk 0, .code C23_65] tm st
 | .p4 i => ∀ (tm : Fr) (st : Store), Frm tm [(7, AV.int .i64 i)] → SH st [] → W (X23 r) [.code C23_62, .blk 2, .blk 1, .lp C23_18, .blk 0, .code C23_65] tm st
theorem w23 : ∀ (x : St23) (r : Str × Int × Int × Int), G23 x = some r → M23 x r := by
 refine G23.partial_correctness M23 ?_
 intro g ih x r hF
 cases x with
 | p1  =>
  dsimp only at hF
  intro tm st hf hs
  refine en hf ?_
  refine rn 4 rfl ?_
  cases hF
  exact rD (rlt (rlt (rlt (rlt rl0)))) rfl
 | p2 s i out =>
  dsimp only at hF
  intro tm st io0 hf hs
  refine en hf ?_
  refine lp ?_
  refine rn 4 rfl ?_
  refine ci hF rfl (fun c_6 hF => ?_) (fun c_6 hF => ?_)
  · obtain ⟨b_7, g_8, hF⟩ := bind_some hF
    refine rn 2 rfl ?_
    refine W.o (e_ixS rfl rfl g_8) ?_
    refine rn 4 rfl ?_
    refine ci hF rfl (fun c_9 hF => ?_) (fun c_9 hF => ?_)
    · refine rn 1 rfl ?_
      refine W.o (e_b2s (rd_W (o := out) (id := io0) rfl)) ?_
      refine rn 6 rfl ?_
      cases hF
      exact rD (rlt (rlt (rlt (rlt rl0)))) rfl
    · refine rn 3 rfl ?_
      refine bi hF (fun c_10 hF => ?_) (fun c_10 hF => ?_)
      · refine wfx 38 rfl c_10 ?_
        refine rn 7 rfl ?_
        refine bi hF (fun c_11 hF => ?_) (fun c_11 hF => ?_)
        · refine wfx 45 rfl c_11 ?_
          obtain ⟨b_12, g_13, hF⟩ := bind_some hF
          refine rn 3 rfl ?_
          refine W.on rfl rfl ?_
          refine W.o (e_ixS rfl rfl g_13) ?_
          refine rn 3 rfl ?_
          refine ci hF rfl (fun c_14 hF => ?_) (fun c_14 hF => ?_)
          · refine rn 1 rfl ?_
            refine bs (f := AV.int .u8) ([34] : List Int) hs rfl rfl rfl rfl fun st b_15 hs => ?_
            obtain ⟨g_16, hF⟩ := grd_some hF
            refine ap (ys := ls (some ([34] : List Int))) hs 1 rfl rfl (ae_rd (rd_W (o := (some ([34] : List Int))) (id := b_15) rfl)) g_16 (fun _ => rfl) fun st b_17 hs => ?_
            refine rn 4 rfl ?_
            exact ih (.p2 s (IntKind.wrap .i64 (i + 2)) (sapp out (ls (some ([34] : List Int))))) _ hF _ _ b_17 ⟨rfl, rfl, rfl, trivial⟩ (hs.p 2 [1] rfl)
          · exact ih (.p3 s i (b_7.toNat : Int) out) _ hF _ _ io0 ⟨rfl, rfl, rfl, rfl, trivial⟩ hs
        · refine wfx 45 rfl c_11 ?_
          refine rn 7 rfl ?_
          refine cf rfl rfl ?_
          exact ih (.p3 s i (b_7.toNat : Int) out) _ hF _ _ io0 ⟨rfl, rfl, rfl, rfl, trivial⟩ hs
      · refine wfx 38 rfl c_10 ?_
        refine rn 14 rfl ?_
        refine cf rfl rfl ?_
        exact ih (.p3 s i (b_7.toNat : Int) out) _ hF _ _ io0 ⟨rfl, rfl, rfl, rfl, trivial⟩ hs
  · refine rn 6 rfl ?_
    cases hF
    exact rD (rlt (rlt (rlt (rlt rl0)))) rfl
 | p3 s i c out =>
  dsimp only at hF
  intro tm st io0 hf hs
  refine en hf ?_
  refine rn 3 rfl ?_
  refine ci hF rfl (fun c_18 hF => ?_) (fun c_18 hF => ?_)
  · obtain ⟨r_19, g_20, hF⟩ := bind_some hF
    refine rn 3 rfl ?_
    refine df (d44 s (IntKind.wrap .i64 (i + 1)) _ g_20) rfl ?_
    refine rn 9 rfl ?_
    refine ci hF rfl (fun c_21 hF => ?_) (fun c_21 hF => ?_)
    · refine rn 5 rfl ?_
      cases hF
      exact rD (rlt (rlt (rlt (rlt rl0)))) rfl
    · refine rn 2 rfl ?_
      refine bs (f := AV.int .u8) ([r_19.1] : List Int) hs rfl rfl rfl rfl fun st b_22 hs => ?_
      obtain ⟨g_23, hF⟩ := grd_some hF
      refine ap (ys := ls (some ([r_19.1] : List Int))) hs 1 rfl rfl (ae_rd (rd_W (o := (some ([r_19.1] : List Int))) (id := b_22) rfl)) g_23 (fun _ => rfl) fun st b_24 hs => ?_
      refine rn 3 rfl ?_
      exact ih (.p2 s r_19.2.1 (sapp out (ls (some ([r_19.1] : List Int))))) _ hF _ _ b_24 ⟨rfl, rfl, rfl, trivial⟩ (hs.p 2 [1] rfl)
  · refine rn 3 rfl ?_
    refine bi hF (fun c_25 hF => ?_) (fun c_25 hF => ?_)
    · refine wfx 79 rfl c_25 ?_
      refine rn 4 rfl ?_
      refine ci hF rfl (fun c_26 hF => ?_) (fun c_26 hF => ?_)
      · refine rn 2 rfl ?_
        refine bs (f := AV.int .u8) ([c] : List Int) hs rfl rfl rfl rfl fun st b_27 hs => ?_
        obtain ⟨g_28, hF⟩ := grd_some hF
        refine ap (ys := ls (some ([c] : List Int))) hs 1 rfl rfl (ae_rd (rd_W (o := (some ([c] : List Int))) (id := b_27) rfl)) g_28 (fun _ => rfl) fun st b_29 hs => ?_
        refine rn 4 rfl ?_
        exact ih (.p2 s (IntKind.wrap .i64 (i + 1)) (sapp out (ls (some ([c] : List Int))))) _ hF _ _ b_29 ⟨rfl, rfl, rfl, trivial⟩ (hs.p 2 [1] rfl)
      · exact ih (.p4 i) _ hF _ _ ⟨rfl, trivial⟩ (hs.p 1 [] rfl)
    · refine wfx 79 rfl c_25 ?_
      refine rn 4 rfl ?_
      refine cf rfl rfl ?_
      exact ih (.p4 i) _ hF _ _ ⟨rfl, trivial⟩ (hs.p 1 [] rfl)
 | p4 i =>
  dsimp only at hF
  intro tm st hf hs
  refine en hf ?_
  refine rn 5 rfl ?_
  cases hF
  exact rD (rlt (rlt (rlt (rlt rl0)))) rfl
noncomputable def F23 (s : Str) : Option (Str × Int × Int × Int) :=
 (if (((s).length : Int) == 0) = true then
  (G23 (.p1))
 else
  (ix s 0 >>= fun b_2 =>
   (if ((b_2.toNat : Int) != 34) = true then
    (G23 (.p1))
   else
    (G23 (.p2 s 1 none)))))
theorem d23 (s : Str) (r : Str × Int × Int × Int) (hF : F23 s = some r) : DFun Tryd.prog gE 23 [AV.str s] (AV.tup [AV.str r.1, AV.int .i64 r.2.1, AV.int .i64 r.2.2.1, AV.int .i64 r.2.2.2]) := by
 unfold F23 at hF
 refine bD k23 rfl ?_
 have hs : SH [] [] := SH.nil
 generalize ([] : Store) = st at hs ⊢
 refine rn 8 rfl ?_
 refine bi hF (fun c_1 hF => ?_) (fun c_1 hF => ?_)
 · refine wfx 15 rfl c_1 ?_
   refine rn 4 rfl ?_
   refine ct rfl rfl ?_
   exact w23 (.p1) _ hF _ _ trivial hs
 · refine wfx 15 rfl c_1 ?_
   obtain ⟨b_2, g_3, hF⟩ := bind_some hF
   refine rn 1 rfl ?_
   refine W.on rfl rfl ?_
   refine W.o (e_ixS rfl rfl g_3) ?_
   refine rn 2 rfl ?_
   refine ci hF rfl (fun c_4 hF => ?_) (fun c_4 hF => ?_)
   · exact w23 (.p1) _ hF _ _ trivial hs
   · refine rn 2 rfl ?_
     have hs := hs.ownNil Int
     exact w23 (.p2 s 1 none) _ hF _ _ 0 ⟨rfl, rfl, rfl, trivial⟩ hs
/-! ### 24: paddock/lines.Quote -/
def C24_20 : ACode := .s (.ops [q 10 (.mv 8), q 4 (.mv 10)]) (.s (.ops [q 11 (.mv 0), q 12 (.mv 4), q 13 (.ixS 11 12), q 14 (.binI .eql 13 (ku 34))]) (.cond 14 (.s (.ops [qc 15 41 [3, (ku 92)]]) (.ops [qc 16 41 [3, (ku 34)]])) (.ops [q 17 (.mv 0), q 18 (.mv 4), q 19 (.ixS 17 18), qc 20 45 [19], qc 21 40 [3, 20]])))
def C24_12 : ACode := .s (.ops [q 9 (.binI .lss 8 7)]) (.s (.cond 9 .skip (.exit 0)) (.s (.block 1 C24_20) (.ops [q 22 (.binI .add 8 (ki 1)), q 8 (.mv 22)])))
def C24_30 : ACode := .s (.ops [qc 23 41 [3, (ku 34)]]) (.s (.ops [qc 24 42 [3], q 2 (.mv 24)]) .ret)
def C24_1 : ACode := .s (.ops [q 2 (.mv (.c (.str [])))]) (.s (.ops [q 3 (.allocB 60 2 [.nilptr, .nils])]) (.s (.ops [qc 5 41 [3, (ku 34)]]) (.s (.s (.ops [q 6 (.mv 0), q 7 (.lenS 6), q 8 (.mv (ki 0))]) (.block 0 (.loop C24_12))) C24_30)))
def R24 : List RA := [(.tmp 2)]
theorem k24 : compF Tryd.prog (muL []) 24 = some ⟨25, C24_1, R24⟩ := by kernel_rfl
noncomputable abbrev X24 (r : Str) : Cx := cD Tryd.prog gE 25 R24 (AV.str r)
inductive St24 where
 | p1 (s : Str) (t7_ : Int) (t8_ : Int) (b : Str)
noncomputable def G24 : St24 → Option Str
 | .p1 s t7_ t8_ b =>
  (if (decide (t8_ < t7_)) = true then
   (ix s t8_ >>= fun b_5 =>
    (if ((b_5.toNat : Int) == 34) = true then
     (bWB b 92 >>= fun r_8 =>
      (bWB r_8.2 34 >>= fun r_10 =>
       (G24 (.p1 s t7_ (IntKind.wrap .i64 (t8_ + 1)) r_10.2))))
    else
     (ix s t8_ >>= fun b_12 =>
      (F45 (b_12.toNat : Int) >>= fun r_14 =>
       (bWS b r_14 >>= fun r_16 =>
        (G24 (.p1 s t7_ (IntKind.wrap .i64 (t8_ + 1)) r_16.2.2)))))))
  else
   (bWB b 34 >>= fun r_18 =>
    (bST r_18.2 >>= fun r_20 =>
     (some r_20))))
 partial_fixpoint
def M24 (x : St24) (r : Str) : Prop := match x with
 | .p1 s t7_ t8_ b => ∀ (tm : Fr) (st : Store) (io0 : Nat), Frm tm [(0, AV.str s), (3, .ptr io0 0), (7, AV.int .i64 t7_), (8, AV.int .i64 t8_)] → SH st [bldA 60 5 io0 b] → W (X24 r) [.lp C24_12, .blk 0, .code C24_30] tm st
theorem w24 : ∀ (x : St24) (r : Str), G24 x = some r → M24 x r := by
 refine G24.partial_correctness M24 ?_
 intro g ih x r hF
 cases x with
 | p1 s t7_ t8_ b =>
  dsimp only at hF
  intro tm st io0 hf hs
  refine en hf ?_
  refine lp ?_
  refine rn 1 rfl ?_
  refine ci hF rfl (fun c_4 hF => ?_) (fun c_4 hF => ?_)
  · obtain ⟨b_5, g_6, hF⟩ := bind_some hF
    refine rn 4 rfl ?_
    refine W.o (e_ixS rfl rfl g_6) ?_
    refine rn 1 rfl ?_
    refine ci hF rfl (fun c_7 hF => ?_) (fun c_7 hF => ?_)
    · obtain ⟨r_8, g_9, hF⟩ := bind_some hF
      refine rn 0 rfl ?_
      refine cl (ale rfl) (dWB b 92 _ g_9 _ _ io0 (fun st hs => ?_) _ hs)
      obtain ⟨r_10, g_11, hF⟩ := bind_some hF
      refine rn 0 rfl ?_
      refine cl (ale rfl) (dWB r_8.2 34 _ g_11 _ _ io0 (fun st hs => ?_) _ hs)
      refine rn 2 rfl ?_
      exact ih (.p1 s t7_ (IntKind.wrap .i64 (t8_ + 1)) r_10.2) _ hF _ _ io0 ⟨rfl, rfl, rfl, rfl, trivial⟩ hs
    · obtain ⟨b_12, g_13, hF⟩ := bind_some hF
      refine rn 2 rfl ?_
      refine W.o (e_ixS rfl rfl g_13) ?_
      obtain ⟨r_14, g_15, hF⟩ := bind_some hF
      refine df (d45 (b_12.toNat : Int) _ g_15) rfl ?_
      obtain ⟨r_16, g_17, hF⟩ := bind_some hF
      refine cl (ale rfl) (dWS b r_14 _ g_17 _ _ io0 (fun st hs => ?_) _ hs)
      refine rn 2 rfl ?_
      exact ih (.p1 s t7_ (IntKind.wrap .i64 (t8_ + 1)) r_16.2.2) _ hF _ _ io0 ⟨rfl, rfl, rfl, rfl, trivial⟩ hs
  · obtain ⟨r_18, g_19, hF⟩ := bind_some hF
    refine rn 0 rfl ?_
    refine cl (ale rfl) (dWB b 34 _ g_19 _ _ io0 (fun st hs => ?_) _ hs)
    obtain ⟨r_20, g_21, hF⟩ := bind_some hF
    refine rn 0 rfl ?_
    refine cl (ale rfl) (dST r_18.2 _ g_21 _ _ io0 (fun st hs => ?_) _ hs)
    refine rn 1 rfl ?_
    cases hF
    exact rD (rlt rl0) rfl
noncomputable def F24 (s : Str) : Option Str :=
 (bWB ([] : Str) 34 >>= fun r_2 =>
  (G24 (.p1 s ((s).length : Int) 0 r_2.2)))
theorem d24 (s : Str) (r : Str) (hF : F24 s = some r) : DFun Tryd.prog gE 24 [AV.str s] (AV.str r) := by
 unfold F24 at hF
 refine bD k24 rfl ?_
 have hs : SH [] [] := SH.nil
 generalize ([] : Store) = st at hs ⊢
 refine rn 1 rfl ?_
 refine bld_new (T := 5) hs fun st b_1 hs => ?_
 obtain ⟨r_2, g_3, hF⟩ := bind_some hF
 refine rn 0 rfl ?_
 refine cl (ale rfl) (dWB ([] : Str) 34 _ g_3 _ _ b_1 (fun st hs => ?_) _ hs)
 refine rn 3 rfl ?_
 exact w24 (.p1 s ((s).length : Int) 0 r_2.2) _ hF _ _ b_1 ⟨rfl, rfl, rfl, rfl, trivial⟩ hs
/-! ### 25: paddock/paddockref01.Quote -/
def C25_21 : ACode := .s (.ops [q 16 (.mv 3), q 17 (.bslice 1 1 false [(.int .u8 0)] [(0, (1, (ku 92)))] false), q 18 (.app 1 1 16 17), q 3 (.mv 18)]) (.ops [q 19 (.mv 3), q 20 (.bslice 1 1 false [(.int .u8 0)] [(0, (1, (ku 34)))] false), q 21 (.app 1 1 19 20), q 3 (.mv 21)])
def C25_10 : ACode := .s (.s (.ops [q 6 (.mv 4), q 7 (.mv 0), q 8 (.lenS 7), q 9 (.binI .lss 6 8)]) (.cond 9 .skip (.exit 0))) (.s (.block 1 (.s (.ops [q 12 (.mv 0), q 13 (.mv 4), q 14 (.ixS 12 13), q 15 (.binI .eql 14 (ku 34))]) (.cond 15 C25_21 (.ops [q 22 (.mv 3), q 23 (.mv 0), q 24 (.mv 4), q 25 (.ixS 23 24), qc 26 46 [25], q 27 (.app 1 1 22 26), q 3 (.mv 27)])))) (.ops [q 10 (.mv 4), q 11 (.binI .add 10 (ki 1)), q 4 (.mv 11)]))
def C25_26 : ACode := .s (.ops [q 28 (.mv 3), q 29 (.bslice 1 1 false [(.int .u8 0)] [(0, (1, (ku 34)))] false), q 30 (.app 1 1 28 29), q 31 (.b2s 30), q 2 (.mv 31)]) .ret
def C25_1 : ACode := .s (.ops [q 2 (.mv (.c (.str [])))]) (.s (.ops [q 5 (.bslice 1 1 false [(.int .u8 0)] [(0, (1, (ku 34)))] false), q 3 (.mv 5)]) (.s (.s (.ops [q 4 (.mv (ki 0))]) (.block 0 (.loop C25_10))) C25_26))
def R25 : List RA := [(.tmp 2)]
theorem k25 : compF Tryd.prog (muL []) 25 = some ⟨32, C25_1, R25⟩ := by kernel_rfl
noncomputable abbrev X25 (r : Str) : Cx := cD Tryd.prog gE 32 R25 (AV.str r)
inductive St25 where
 | p1 (s : Str) (i : Int) (out : Sl Int)
noncomputable def G25 : St25 → Option Str
 | .p1 s i out =>
  (if (decide (i < ((s).length : Int))) = true then
   (ix s i >>= fun b_3 =>
    (if ((b_3.toNat : Int) == 34) = true then
     (if ((ls out).length + (ls (some ([92] : List Int))).length) * 1 ≤ 140737488355328 then
      (if ((ls (sapp out (ls (some ([92] : List Int))))).length + (ls (some ([34] : List Int))).length) * 1 ≤ 140737488355328 then
       (G25 (.p1 s (IntKind.wrap .i64 (i + 1)) (sapp (sapp out (ls (some ([92] : List Int)))) (ls (some ([34] : List Int))))))
      else none)
     else none)
    else
     (ix s i >>= fun b_12 =>
      (F46 (b_12.toNat : Int) >>= fun r_14 =>
       (if ((ls out).length + (ofBs r_14).length) * 1 ≤ 140737488355328 then
        (G25 (.p1 s (IntKind.wrap .i64 (i + 1)) (sapp out (ofBs r_14))))
       else none)))))
  else
   (if ((ls out).length + (ls (some ([34] : List Int))).length) * 1 ≤ 140737488355328 then
    (some (toBs (ls (sapp out (ls (some ([34] : List Int)))))))
   else none))
 partial_fixpoint
def M25 (x : St25) (r : Str) : Prop := match x with
 | .p1 s i out => ∀ (tm : Fr) (st : Store) (io0 : Nat), Frm tm [(0, AV.str s), (3, ownV 1 (AV.int .u8) out io0), (4, AV.int .i64 i)] → SH st [ownA io0 out] → W (X25 r) [.lp C25_10, .blk 0, .code C25_26] tm st
theorem w25 : ∀ (x : St25) (r : Str), G25 x = some r → M25 x r := by
 refine G25.partial_correctness M25 ?_
 intro g ih x r hF
 cases x with
 | p1 s i out =>
  dsimp only at hF
  intro tm st io0 hf hs
  refine en hf ?_
  refine lp ?_
  refine rn 4 rfl ?_
  refine ci hF rfl (fun c_2 hF => ?_) (fun c_2 hF => ?_)
  · obtain ⟨b_3, g_4, hF⟩ := bind_some hF
    refine rn 2 rfl ?_
    refine W.o (e_ixS rfl rfl g_4) ?_
    refine rn 1 rfl ?_
    refine ci hF rfl (fun c_5 hF => ?_) (fun c_5 hF => ?_)
    · refine rn 1 rfl ?_
      refine bs (f := AV.int .u8) ([92] : List Int) hs rfl rfl rfl rfl fun st b_6 hs => ?_
      obtain ⟨g_7, hF⟩ := grd_some hF
      refine ap (ys := ls (some ([92] : List Int))) hs 1 rfl rfl (ae_rd (rd_W (o := (some ([92] : List Int))) (id := b_6) rfl)) g_7 (fun _ => rfl) fun st b_8 hs => ?_
      refine rn 2 rfl ?_
      refine bs (f := AV.int .u8) ([34] : List Int) hs rfl rfl rfl rfl fun st b_9 hs => ?_
      obtain ⟨g_10, hF⟩ := grd_some hF
      refine ap (ys := ls (some ([34] : List Int))) hs 2 rfl rfl (ae_rd (rd_W (o := (some ([34] : List Int))) (id := b_9) rfl)) g_10 (fun _ => rfl) fun st b_11 hs => ?_
      refine rn 4 rfl ?_
      exact ih (.p1 s (IntKind.wrap .i64 (i + 1)) (sapp (sapp out (ls (some ([92] : List Int)))) (ls (some ([34] : List Int))))) _ hF _ _ b_11 ⟨rfl, rfl, rfl, trivial⟩ (hs.p 3 [2] rfl)
    · obtain ⟨b_12, g_13, hF⟩ := bind_some hF
      refine rn 3 rfl ?_
      refine W.o (e_ixS rfl rfl g_13) ?_
      obtain ⟨r_14, g_15, hF⟩ := bind_some hF
      refine df (d46 (b_12.toNat : Int) _ g_15) rfl ?_
      obtain ⟨g_16, hF⟩ := grd_some hF
      refine ap (ys := ofBs r_14) hs 0 rfl rfl (ae_str rfl) g_16 (fun _ => rfl) fun st b_17 hs => ?_
      refine rn 4 rfl ?_
      exact ih (.p1 s (IntKind.wrap .i64 (i + 1)) (sapp out (ofBs r_14))) _ hF _ _ b_17 ⟨rfl, rfl, rfl, trivial⟩ hs
  · refine rn 1 rfl ?_
    refine bs (f := AV.int .u8) ([34] : List Int) hs rfl rfl rfl rfl fun st b_18 hs => ?_
    obtain ⟨g_19, hF⟩ := grd_some hF
    refine ap (ys := ls (some ([34] : List Int))) hs 1 rfl rfl (ae_rd (rd_W (o := (some ([34] : List Int))) (id := b_18) rfl)) g_19 (fun _ => rfl) fun st b_20 hs => ?_
    refine W.o (e_b2s (rd_W (o := sapp out (ls (some ([34] : List Int)))) (id := b_20) rfl)) ?_
    refine rn 1 rfl ?_
    cases hF
    exact rD (rlt rl0) rfl
noncomputable def F25 (s : Str) : Option Str :=
 (G25 (.p1 s 0 (some ([34] : List Int))))
theorem d25 (s : Str) (r : Str) (hF : F25 s = some r) : DFun Tryd.prog gE 25 [AV.str s] (AV.str r) := by
 unfold F25 at hF
 refine bD k25 rfl ?_
 have hs : SH [] [] := SH.nil
 generalize ([] : Store) = st at hs ⊢
 refine rn 1 rfl ?_
 refine bs (f := AV.int .u8) ([34] : List Int) hs rfl rfl rfl rfl fun st b_1 hs => ?_
 refine rn 2 rfl ?_
 exact w25 (.p1 s 0 (some ([34] : List Int))) _ hF _ _ b_1 ⟨rfl, rfl, rfl, trivial⟩ hs
/-! ### 7: paddock/paddocklaw01.LinesQuotes -/
def O7_8o1 : List AOp := (q 51 (.mv 8)).y 50 :: (q 52 (.mv 12)).y 50 :: (q 53 (.binI .eql 51 52)).y 50 :: q 54 (.pick 50 53 (.c (.bool false))) :: q 4 (.mv 54) :: []
def O7_8o0 : List AOp := qc 27 13 [] :: q 28 (.mv 27) :: (q 29 (.mv 0)).y 28 :: (qc 30 24 [29]).y 28 :: (q 31 (.mv 0)).y 28 :: (qc 32 25 [31]).y 28 :: (q 33 (.binS .eql 30 32)).y 28 :: q 34 (.pick 28 33 (.c (.bool false))) :: q 35 (.mv 34) :: (q 36 (.mv 5)).y 35 :: (q 37 (.mv 9)).y 35 :: (q 38 (.binS .eql 36 37)).y 35 :: q 39 (.pick 35 38 (.c (.bool false))) :: q 40 (.mv 39) :: (q 41 (.mv 6)).y 40 :: (q 42 (.mv 10)).y 40 :: (q 43 (.binI .eql 41 42)).y 40 :: q 44 (.pick 40 43 (.c (.bool false))) :: q 45 (.mv 44) :: (q 46 (.mv 7)).y 45 :: (q 47 (.mv 11)).y 45 :: (q 48 (.binI .eql 46 47)).y 45 :: q 49 (.pick 45 48 (.c (.bool false))) :: q 50 (.mv 49) :: O7_8o1
def C7_1 : ACode := .s (.ops [q 4 (.mv (.c (.bool false)))]) (.s (.ops [q 14 (.mv 1), qc 15 22 [14], q 13 (.mv 15), q 16 (.extract 13 0), q 17 (.extract 13 1), q 18 (.extract 13 2), q 19 (.extract 13 3), q 5 (.mv 16), q 6 (.mv 17), q 7 (.mv 18), q 8 (.mv 19)]) (.s (.ops [q 21 (.mv 1), qc 22 23 [21], q 20 (.mv 22), q 23 (.extract 20 0), q 24 (.extract 20 1), q 25 (.extract 20 2), q 26 (.extract 20 3), q 9 (.mv 23), q 10 (.mv 24), q 11 (.mv 25), q 12 (.mv 26)]) (.s (.ops O7_8o0) .ret)))
def R7 : List RA := [(.tmp 4)]
theorem k7 : compF Tryd.prog (muL []) 7 = some ⟨55, C7_1, R7⟩ := by kernel_rfl
noncomputable abbrev X7 (r : Bool) : Cx := cD Tryd.prog gE 55 R7 (AV.bool r)
noncomputable def F7 (s : Str) (t : Str) : Option Bool :=
 (F22 t >>= fun r_1 =>
  (F23 t >>= fun r_3 =>
   (F13 >>= fun r_5 =>
    (if r_5 = true then
     (F24 s >>= fun r_8 =>
      (F25 s >>= fun r_10 =>
       (if (r_8 == r_10) = true then
        (if (r_1.1 == r_3.1) = true then
         (if (r_1.2.1 == r_3.2.1) = true then
          (if (r_1.2.2.1 == r_3.2.2.1) = true then
           (some (r_1.2.2.2 == r_3.2.2.2))
          else
           (some false))
         else
          (some false))
        else
         (some false))
       else
        (some false))))
    else
     (some false)))))
theorem d7 (s : Str) (t : Str) (r : Bool) (hF : F7 s t = some r) : DFun Tryd.prog gE 7 [AV.str s, AV.str t] (AV.bool r) := by
 unfold F7 at hF
 refine bD k7 rfl ?_
 have hs : SH [] [] := SH.nil
 generalize ([] : Store) = st at hs ⊢
 obtain ⟨r_1, g_2, hF⟩ := bind_some hF
 refine rn 2 rfl ?_
 refine df (d22 t _ g_2) rfl ?_
 obtain ⟨r_3, g_4, hF⟩ := bind_some hF
 refine rn 10 rfl ?_
 refine df (d23 t _ g_4) rfl ?_
 obtain ⟨r_5, g_6, hF⟩ := bind_some hF
 refine rn 9 rfl ?_
 refine df (d13 _ g_6) rfl ?_
 refine rn 1 rfl ?_
 refine bi hF (fun c_7 hF => ?_) (fun c_7 hF => ?_)
 · refine wfx 28 rfl c_7 ?_
   obtain ⟨r_8, g_9, hF⟩ := bind_some hF
   refine rn 1 rfl ?_
   refine W.on rfl rfl ?_
   refine df (d24 s _ g_9) rfl ?_
   obtain ⟨r_10, g_11, hF⟩ := bind_some hF
   refine rn 1 rfl ?_
   refine W.on rfl rfl ?_
   refine df (d25 s _ g_11) rfl ?_
   refine rn 3 rfl ?_
   refine bi hF (fun c_12 hF => ?_) (fun c_12 hF => ?_)
   · refine wfx 35 rfl c_12 ?_
     refine rn 5 rfl ?_
     refine bi hF (fun c_13 hF => ?_) (fun c_13 hF => ?_)
     · refine wfx 40 rfl c_13 ?_
       refine rn 5 rfl ?_
       refine bi hF (fun c_14 hF => ?_) (fun c_14 hF => ?_)
       · refine wfx 45 rfl c_14 ?_
         refine rn 5 rfl ?_
         refine bi hF (fun c_15 hF => ?_) (fun c_15 hF => ?_)
         · refine wfx 50 rfl c_15 ?_
           refine rn 5 rfl ?_
           cases hF
           exact rD (rlt rl0) rfl
         · refine wfx 50 rfl c_15 ?_
           refine rn 5 rfl ?_
           cases hF
           exact rD (rlt rl0) rfl
       · refine wfx 45 rfl c_14 ?_
         refine rn 10 rfl ?_
         cases hF
         exact rD (rlt rl0) rfl
     · refine wfx 40 rfl c_13 ?_
       refine rn 15 rfl ?_
       cases hF
       exact rD (rlt rl0) rfl
   · refine wfx 35 rfl c_12 ?_
     refine rn 20 rfl ?_
     cases hF
     exact rD (rlt rl0) rfl
 · refine wfx 28 rfl c_7 ?_
   refine rn 27 rfl ?_
   cases hF
   exact rD (rlt rl0) rfl
/-! ### 27: paddock/paddockref01.List -/
def C27_38 : ACode := .s (.ops [q 40 (.mv 6), q 41 (.mv 9), q 42 (.app 1 1 40 41), q 6 (.mv 42)]) (.ops [q 43 (.mv 7), q 44 (.mv 9), q 45 (.lenS 44), q 46 (.binI .add 43 45), q 7 (.mv 46)])
def C27_28 : ACode := .s (.ops [q 18 (.mv 0), q 19 (.mv 8), q 20 (.ixS 18 19), qc 21 46 [20], q 9 (.mv 21)]) (.s (.s (.ops [q 22 (.mv 1), q 23 (.binI .gtr 22 (ki 1)), q 24 (.mv 23), (q 25 (.mv 7)).y 24, (q 26 (.binI .gtr 25 (ki 0))).y 24, q 27 (.pick 24 26 (.c (.bool false))), q 28 (.mv 27), (q 29 (.mv 9)).y 28, (q 30 (.lenS 29)).y 28, (q 31 (.mv 1)).y 28, (q 32 (.binI .sub 31 (ki 1))).y 28, (q 33 (.mv 7)).y 28, (q 34 (.binI .sub 32 33)).y 28, (q 35 (.binI .gtr 30 34)).y 28, q 36 (.pick 28 35 (.c (.bool false)))]) (.cond 36 (.s (.ops [q 37 (.mv 6), q 38 (.bslice 1 2 false [(.int .u8 0)] [(0, (1, (ku 92))), (1, (1, (ku 10)))] false), q 39 (.app 1 1 37 38), q 6 (.mv 39)]) (.ops [q 7 (.mv (ki 0))])) .skip)) C27_38)
def C27_41 : ACode := .ops [q 16 (.mv 8), q 17 (.binI .add 16 (ki 1)), q 8 (.mv 17)]
def C27_20 : ACode := .s (.s (.ops [q 12 (.mv 8), q 13 (.mv 0), q 14 (.lenS 13), q 15 (.binI .lss 12 14)]) (.cond 15 .skip (.exit 0))) (.s (.block 1 C27_28) C27_41)
def C27_42 : ACode := .s (.ops [q 47 (.mv 6), q 48 (.bslice 1 2 false [(.int .u8 0)] [(0, (1, (ku 36))), (1, (1, (ku 10)))] false), q 49 (.app 1 1 47 48), q 50 (.b2s 49), q 4 (.mv 50), q 5 (.mv (ki 0))]) .ret
def C27_1 : ACode := .s (.ops [q 4 (.mv (.c (.str []))), q 5 (.mv (ki 0))]) (.s (.s (.ops [q 10 (.mv 1), q 11 (.binI .lss 10 (ki 0))]) (.cond 11 (.s (.ops [q 4 (.mv (.c (.str []))), q 5 (.mv (ki 2))]) .ret) .skip)) (.s (.ops [q 6 (.mv (.c .nils))]) (.s (.ops [q 7 (.mv (ki 0))]) (.s (.s (.ops [q 8 (.mv (ki 0))]) (.block 0 (.loop C27_20))) C27_42))))
def R27 : List RA := [(.tmp 4), (.tmp 5)]
theorem k27 : compF Tryd.prog (muL []) 27 = some ⟨51, C27_1, R27⟩ := by kernel_rfl
noncomputable abbrev X27 (r : Str × Int) : Cx := cD Tryd.prog gE 51 R27 (AV.tup [AV.str r.1, AV.int .i64 r.2])
inductive St27 where
 | p1 (s : Str) (width : Int) (row : Int) (i : Int) (out : Sl Int)
 | p2 (s : Str) (width : Int) (row : Int) (i : Int) (t : Str) (out : Sl Int)
noncomputable def G27 : St27 → Option (Str × Int)
 | .p1 s width row i out =>
  (if (decide (i < ((s).length : Int))) = true then
   (ix s i >>= fun b_4 =>
    (F46 (b_4.toNat : Int) >>= fun r_6 =>
     (if (decide (width > 1)) = true then
      (if (decide (row > 0)) = true then
       (if (decide (((r_6).length : Int) > (IntKind.wrap .i64 ((IntKind.wrap .i64 (width - 1)) - row)))) = true then
        (if ((ls out).length + (ls (some ([92, 10] : List Int))).length) * 1 ≤ 140737488355328 then
         (G27 (.p2 s width 0 i r_6 (sapp out (ls (some ([92, 10] : List Int))))))
        else none)
       else
        (G27 (.p2 s width row i r_6 out)))
      else
       (G27 (.p2 s width row i r_6 out)))
     else
      (G27 (.p2 s width row i r_6 out)))))
  else
   (if ((ls out).length + (ls (some ([36, 10] : List Int))).length) * 1 ≤ 140737488355328 then
    (some (toBs (ls (sapp out (ls (some ([36, 10] : List Int))))), 0))
   else none))
 | .p2 s width row i t out =>
  (if ((ls out).length + (ofBs t).length) * 1 ≤ 140737488355328 then
   (G27 (.p1 s width (IntKind.wrap .i64 (row + ((t).length : Int))) (IntKind.wrap .i64 (i + 1)) (sapp out (ofBs t))))
  else none)
 partial_fixpoint
def M27 (x : St27) (r : Str × Int) : Prop := match x with
 | .p1 s width row i out => ∀ (tm : Fr) (st : Store) (io0 : Nat), Frm tm [(0, AV.str s), (1, AV.int .i64 width), (6, ownV 1 (AV.int .u8) out io0), (7, AV.int .i64 row), (8, AV.int .i64 i)] → SH st [ownA io0 out] → W (X27 r) [.lp C27_20, .blk 0, .code C27_42] tm st
 | .p2 s width row i t out => ∀ (tm : Fr) (st : Store) (io0 : Nat), Frm tm [(0, AV.str s), (1, AV.int .i64 width), (6, ownV 1 (AV.int .u8) out io0), (7, AV.int .i64 row), (8, AV.int .i64 i), (9, AV.str t)] → SH st [ownA io0 out] → W (X27 r) [.code C27_38, .blk 1, .code C27_41, .lp C27_20, .blk 0, .code C27_42] tm st
theorem w27 : ∀ (x : St27) (r : Str × Int), G27 x = some r → M27 x r := by
 refine G27.partial_correctness M27 ?_
 intro g ih x r hF
 cases x with
 | p1 s width row i out =>
  dsimp only at hF
  intro tm st io0 hf hs
  refine en hf ?_
  refine lp ?_
  refine rn 4 rfl ?_
  refine ci hF rfl (fun c_3 hF => ?_) (fun c_3 hF => ?_)
  · obtain ⟨b_4, g_5, hF⟩ := bind_some hF
    refine rn 2 rfl ?_
    refine W.o (e_ixS rfl rfl g_5) ?_
    obtain ⟨r_6, g_7, hF⟩ := bind_some hF
    refine df (d46 (b_4.toNat : Int) _ g_7) rfl ?_
    refine rn 4 rfl ?_
    refine bi hF (fun c_8 hF => ?_) (fun c_8 hF => ?_)
    · refine wfx 24 rfl c_8 ?_
      refine rn 4 rfl ?_
      refine bi hF (fun c_9 hF => ?_) (fun c_9 hF => ?_)
      · refine wfx 28 rfl c_9 ?_
        refine rn 8 rfl ?_
        refine ci hF rfl (fun c_10 hF => ?_) (fun c_10 hF => ?_)
        · refine rn 1 rfl ?_
          refine bs (f := AV.int .u8) ([92, 10] : List Int) hs rfl rfl rfl rfl fun st b_11 hs => ?_
          obtain ⟨g_12, hF⟩ := grd_some hF
          refine ap (ys := ls (some ([92, 10] : List Int))) hs 1 rfl rfl (ae_rd (rd_W (o := (some ([92, 10] : List Int))) (id := b_11) rfl)) g_12 (fun _ => rfl) fun st b_13 hs => ?_
          refine rj 2 1 rfl ?_
          exact ih (.p2 s width 0 i r_6 (sapp out (ls (some ([92, 10] : List Int))))) _ hF _ _ b_13 ⟨rfl, rfl, rfl, rfl, rfl, rfl, trivial⟩ (hs.p 2 [1] rfl)
        · refine rj 0 1 rfl ?_
          exact ih (.p2 s width row i r_6 out) _ hF _ _ io0 ⟨rfl, rfl, rfl, rfl, rfl, rfl, trivial⟩ hs
      · refine wfx 28 rfl c_9 ?_
        refine rn 8 rfl ?_
        refine cf rfl rfl ?_
        refine rj 0 1 rfl ?_
        exact ih (.p2 s width row i r_6 out) _ hF _ _ io0 ⟨rfl, rfl, rfl, rfl, rfl, rfl, trivial⟩ hs
    · refine wfx 24 rfl c_8 ?_
      refine rn 12 rfl ?_
      refine cf rfl rfl ?_
      refine rj 0 1 rfl ?_
      exact ih (.p2 s width row i r_6 out) _ hF _ _ io0 ⟨rfl, rfl, rfl, rfl, rfl, rfl, trivial⟩ hs
  · refine rn 1 rfl ?_
    refine bs (f := AV.int .u8) ([36, 10] : List Int) hs rfl rfl rfl rfl fun st b_14 hs => ?_
    obtain ⟨g_15, hF⟩ := grd_some hF
    refine ap (ys := ls (some ([36, 10] : List Int))) hs 1 rfl rfl (ae_rd (rd_W (o := (some ([36, 10] : List Int))) (id := b_14) rfl)) g_15 (fun _ => rfl) fun st b_16 hs => ?_
    refine W.o (e_b2s (rd_W (o := sapp out (ls (some ([36, 10] : List Int)))) (id := b_16) rfl)) ?_
    refine rn 2 rfl ?_
    cases hF
    exact rD (rlt (rlt rl0)) rfl
 | p2 s width row i t out =>
  dsimp only at hF
  intro tm st io0 hf hs
  refine en hf ?_
  obtain ⟨g_17, hF⟩ := grd_some hF
  refine rn 2 rfl ?_
  refine ap (ys := ofBs t) hs 0 rfl rfl (ae_str rfl) g_17 (fun _ => rfl) fun st b_18 hs => ?_
  refine rn 9 rfl ?_
  exact ih (.p1 s width (IntKind.wrap .i64 (row + ((t).length : Int))) (IntKind.wrap .i64 (i + 1)) (sapp out (ofBs t))) _ hF _ _ b_18 ⟨rfl, rfl, rfl, rfl, rfl, trivial⟩ hs
noncomputable def F27 (s : Str) (width : Int) : Option (Str × Int) :=
 (if (decide (width < 0)) = true then
  (some (([] : Str), 2))
 else
  (G27 (.p1 s width 0 0 none)))
theorem d27 (s : Str) (width : Int) (r : Str × Int) (hF : F27 s width = some r) : DFun Tryd.prog gE 27 [AV.str s, AV.int .i64 width] (AV.tup [AV.str r.1, AV.int .i64 r.2]) := by
 unfold F27 at hF
 refine bD k27 rfl ?_
 have hs : SH [] [] := SH.nil
 generalize ([] : Store) = st at hs ⊢
 refine rn 4 rfl ?_
 refine ci hF rfl (fun c_1 hF => ?_) (fun c_1 hF => ?_)
 · refine rn 2 rfl ?_
   cases hF
   exact rD (rlt (rlt rl0)) rfl
 · refine rn 3 rfl ?_
   have hs := hs.ownNil Int
   exact w27 (.p1 s width 0 0 none) _ hF _ _ 0 ⟨rfl, rfl, rfl, rfl, rfl, trivial⟩ hs
/-! ### 28: paddock/lines.Unlist -/
def C28_17 : ACode := .s (.ops [q 16 (.mv 7), q 2 (.mv (.c (.str []))), q 3 (.mv (ki 10)), q 4 (.mv 16)]) .ret
def C28_41 : ACode := .s (.ops [q 74 (.mv 7), q 75 (.binI .add 74 (ki 1)), q 2 (.mv (.c (.str []))), q 3 (.mv (ki 10)), q 4 (.mv 75)]) .ret
def C28_45 : ACode := .s (.ops [q 6 (.mv (.c (.bool true)))]) (.s (.ops [q 76 (.mv 7), q 77 (.binI .add 76 (ki 2)), q 7 (.mv 77)]) (.exit 1))
def C28_34 : ACode := .s (.ops [q 50 (.mv 0), q 51 (.mv 7), q 52 (.ixS 50 51), q 53 (.binI .eql 52 (ku 92)), q 54 (.mv 53), (q 55 (.mv 7)).y 54, (q 56 (.binI .add 55 (ki 1))).y 54, (q 57 (.mv 0)).y 54, (q 58 (.lenS 57)).y 54, (q 59 (.binI .lss 56 58)).y 54, q 60 (.pick 54 59 (.c (.bool false))), q 61 (.mv 60), (q 62 (.mv 0)).y 61, (q 63 (.mv 7)).y 61, (q 64 (.binI .add 63 (ki 1))).y 61, (q 65 (.ixS 62 64)).y 61, (q 66 (.binI .eql 65 (ku 10))).y 61, q 67 (.pick 61 66 (.c (.bool false))), q 49 (.mv 67)]) (.cond 49 (.s (.s (.ops [q 68 (.mv 6), q 69 (.mv 68), (q 70 (.mv 5)).n 69, (q 71 (.len 70)).n 69, (q 72 (.binI .eql 71 (ki 0))).n 69, q 73 (.pick 69 (.c (.bool true)) 72)]) (.cond 73 C28_41 .skip)) C28_45) .skip)
def C28_20 : ACode := .s (.ops [q 18 (.mv 0), q 19 (.mv 7), q 20 (.ixS 18 19), q 21 (.binI .eql 20 (ku 36)), q 22 (.mv 21), (q 23 (.mv 7)).y 22, (q 24 (.binI .add 23 (ki 1))).y 22, (q 25 (.mv 0)).y 22, (q 26 (.lenS 25)).y 22, (q 27 (.binI .lss 24 26)).y 22, q 28 (.pick 22 27 (.c (.bool false))), q 29 (.mv 28), (q 30 (.mv 0)).y 29, (q 31 (.mv 7)).y 29, (q 32 (.binI .add 31 (ki 1))).y 29, (q 33 (.ixS 30 32)).y 29, (q 34 (.binI .eql 33 (ku 10))).y 29, q 35 (.pick 29 34 (.c (.bool false))), q 36 (.mv 35), (q 37 (.mv 6)).y 36, (q 38 (.un .not 37)).y 36, q 39 (.pick 36 38 (.c (.bool false))), q 17 (.mv 39)]) (.cond 17 (.s (.s (.ops [q 40 (.mv 7), q 41 (.binI .add 40 (ki 2)), q 42 (.mv 0), q 43 (.lenS 42), q 44 (.binI .lss 41 43)]) (.cond 44 (.s (.ops [q 45 (.mv 7), q 46 (.binI .add 45 (ki 2)), q 2 (.mv (.c (.str []))), q 3 (.mv (ki 10)), q 4 (.mv 46)]) .ret) .skip)) (.s (.ops [q 47 (.mv 5), q 48 (.b2s 47), q 2 (.mv 48), q 3 (.mv (ki 0)), q 4 (.mv (ki 0))]) .ret)) C28_34)
def C28_56 : ACode := .cond 86 (.s (.ops [q 87 (.mv 10), q 2 (.mv (.c (.str []))), q 3 (.mv (ki 10)), q 4 (.mv 87)]) .ret) .skip
def C28_63 : ACode := .s (.ops [q 6 (.mv (.c (.bool false)))]) (.ops [q 92 (.mv 9), q 7 (.mv 92)])
def C28_51 : ACode := .s (.ops [q 79 (.mv 0), q 80 (.mv 7), qc 81 43 [79, 80, (.c (.bool false))], q 78 (.mv 81), q 82 (.extract 78 0), q 83 (.extract 78 1), q 84 (.extract 78 2), q 8 (.mv 82), q 9 (.mv 83), q 10 (.mv 84)]) (.s (.s (.ops [q 85 (.mv 10), q 86 (.binI .geq 85 (ki 0))]) C28_56) (.s (.ops [q 88 (.mv 5), q 89 (.mv 8), q 90 (.bslice 1 1 false [(.int .u8 0)] [(0, (1, 89))] false), q 91 (.app 1 1 88 90), q 5 (.mv 91)]) C28_63))
def C28_11 : ACode := .block 1 (.s (.block 2 (.s (.ops [q 12 (.mv 7), q 13 (.mv 0), q 14 (.lenS 13), q 15 (.binI .eql 12 14), q 11 (.mv 15)]) (.cond 11 C28_17 C28_20))) C28_51)
def C28_1 : ACode := .s (.ops [q 2 (.mv (.c (.str []))), q 3 (.mv (ki 0)), q 4 (.mv (ki 0))]) (.s (.ops [q 5 (.mv (.c .nils))]) (.s (.ops [q 6 (.mv (.c (.bool false)))]) (.s (.ops [q 7 (.mv (ki 0))]) (.block 0 (.loop C28_11)))))
def R28 : List RA := [(.tmp 2), (.tmp 3), (.tmp 4)]
theorem k28 : compF Tryd.prog (muL []) 28 = some ⟨93, C28_1, R28⟩ := by kernel_rfl
noncomputable abbrev X28 (r : Str × Int × Int) : Cx := cD Tryd.prog gE 93 R28 (AV.tup [AV.str r.1, AV.int .i64 r.2.1, AV.int .i64 r.2.2])
inductive St28 where
 | p1 (s : Str) (cut : Bool) (i : Int) (out : Sl Int)
 | p2 (s : Str) (cut : Bool) (i : Int) (out : Sl Int)
 | p3 (i : Int)
 | p4 (s : Str) (i : Int) (out : Sl Int)
noncomputable def G28 : St28 → Option (Str × Int × Int)
 | .p1 s cut i out =>
  (if (i == ((s).length : Int)) = true then
   (some (([] : Str), 10, i))
  else
   (ix s i >>= fun b_3 =>
    (if ((b_3.toNat : Int) == 36) = true then
     (if (decide ((IntKind.wrap .i64 (i + 1)) < ((s).length : Int))) = true then
      (ix s (IntKind.wrap .i64 (i + 1)) >>= fun b_7 =>
       (if ((b_7.toNat : Int) == 10) = true then
        (if (!cut) = true then
         (if (decide ((IntKind.wrap .i64 (i + 2)) < ((s).length : Int))) = true then
          (some (([] : Str), 10, IntKind.wrap .i64 (i + 2)))
         else
          (some (toBs (ls out), 0, 0)))
        else
         (G28 (.p2 s cut i out)))
       else
        (G28 (.p2 s cut i out))))
     else
      (G28 (.p2 s cut i out)))
    else
     (G28 (.p2 s cut i out)))))
 | .p2 s cut i out =>
  (ix s i >>= fun b_12 =>
   (if ((b_12.toNat : Int) == 92) = true then
    (if (decide ((IntKind.wrap .i64 (i + 1)) < ((s).length : Int))) = true then
     (ix s (IntKind.wrap .i64 (i + 1)) >>= fun b_16 =>
      (if ((b_16.toNat : Int) == 10) = true then
       (if cut = true then
        (G28 (.p3 i))
       else
        (if (((ls out).length : Int) == 0) = true then
         (G28 (.p3 i))
        else
         (G28 (.p1 s true (IntKind.wrap .i64 (i + 2)) out))))
      else
       (G28 (.p4 s i out))))
    else
     (G28 (.p4 s i out)))
   else
    (G28 (.p4 s i out))))
 | .p3 i =>
  (some (([] : Str), 10, IntKind.wrap .i64 (i + 1)))
 | .p4 s i out =>
  (F43 s i false >>= fun r_21 =>
   (if (decide (r_21.2.2 ≥ 0)) = true then
    (some (([] : Str), 10, r_21.2.2))
   else
    (if ((ls out).length + (ls (some ([r_21.1] : List Int))).length) * 1 ≤ 140737488355328 then
     (G28 (.p1 s false r_21.2.1 (sapp out (ls (some ([r_21.1] : List Int))))))
    else none)))
 partial_fixpoint
def M28 (x : St28) (r : Str × Int × Int) : Prop := match x with
 | .p1 s cut i out => ∀ (tm : Fr) (st : Store) (io0 : Nat), Frm tm [(0, AV.str s), (5, ownV 1 (AV.int .u8) out io0), (6, AV.bool cut), (7, AV.int .i64 i)] → SH st [ownA io0 out] → W (X28 r) [.lp C28_11, .blk 0] tm st
 | .p2 s cut i out => ∀ (tm : Fr) (st : Store) (io0 : Nat), Frm tm [(0, AV.str s), (5, ownV 1 (AV.int .u8) out io0), (6, AV.bool cut), (7, AV.int .i64 i)] → SH st [ownA io0 out] → W (X28 r) [.code C28_34, .blk 2, .code C28_51, .blk 1, .lp C28_11, .blk 0] tm st
 | .p3 i => ∀ (tm : Fr) (st : Store), Frm tm [(7, AV.int .i64 i)] → SH st [] → W (X28 r) [.code C28_41, .code C28_45, .blk 2, .code C28_51, .blk 1, .lp C28_11, .blk 0] tm st
 | .p4 s i out => ∀ (tm : Fr) (st : Store) (io0 : Nat), Frm tm [(0, AV.str s), (5, ownV 1 (AV.int .u8) out io0), (7, AV.int .i64 i)] → SH st [ownA io0 out] → W (X28 r) [.code C28_51, .blk 1, .lp C28_11, .blk 0] tm st
theorem w28 : ∀ (x : St28) (r : Str × Int × Int), G28 x = some r → M28 x r := by
 refine G28.partial_correctness M28 ?_
 intro g ih x r hF
 cases x with
 | p1 s cut i out =>
  dsimp only at hF
  intro tm st io0 hf hs
  refine en hf ?_
  refine lp ?_
  refine rn 5 rfl ?_
  refine ci hF rfl (fun c_2 hF => ?_) (fun c_2 hF => ?_)
  · refine rn 4 rfl ?_
    cases hF
    exact rD (rlt (rlt (rlt rl0))) rfl
  · obtain ⟨b_3, g_4, hF⟩ := bind_some hF
    refine rn 2 rfl ?_
    refine W.o (e_ixS rfl rfl g_4) ?_
    refine rn 2 rfl ?_
    refine bi hF (fun c_5 hF => ?_) (fun c_5 hF => ?_)
    · refine wfx 22 rfl c_5 ?_
      refine rn 7 rfl ?_
      refine bi hF (fun c_6 hF => ?_) (fun c_6 hF => ?_)
      · refine wfx 29 rfl c_6 ?_
        obtain ⟨b_7, g_8, hF⟩ := bind_some hF
        refine rn 3 rfl ?_
        refine W.on rfl rfl ?_
        refine W.o (e_ixS rfl rfl g_8) ?_
        refine rn 3 rfl ?_
        refine bi hF (fun c_9 hF => ?_) (fun c_9 hF => ?_)
        · refine wfx 36 rfl c_9 ?_
          refine rn 4 rfl ?_
          refine ci hF rfl (fun c_10 hF => ?_) (fun c_10 hF => ?_)
          · refine rn 5 rfl ?_
            refine ci hF rfl (fun c_11 hF => ?_) (fun c_11 hF => ?_)
            · refine rn 5 rfl ?_
              cases hF
              exact rD (rlt (rlt (rlt rl0))) rfl
            · refine rn 1 rfl ?_
              refine W.o (e_b2s (rd_W (o := out) (id := io0) rfl)) ?_
              refine rn 3 rfl ?_
              cases hF
              exact rD (rlt (rlt (rlt rl0))) rfl
          · exact ih (.p2 s cut i out) _ hF _ _ io0 ⟨rfl, rfl, rfl, rfl, trivial⟩ hs
        · refine wfx 36 rfl c_9 ?_
          refine rn 4 rfl ?_
          refine cf rfl rfl ?_
          exact ih (.p2 s cut i out) _ hF _ _ io0 ⟨rfl, rfl, rfl, rfl, trivial⟩ hs
      · refine wfx 29 rfl c_6 ?_
        refine rn 11 rfl ?_
        refine cf rfl rfl ?_
        exact ih (.p2 s cut i out) _ hF _ _ io0 ⟨rfl, rfl, rfl, rfl, trivial⟩ hs
    · refine wfx 22 rfl c_5 ?_
      refine rn 18 rfl ?_
      refine cf rfl rfl ?_
      exact ih (.p2 s cut i out) _ hF _ _ io0 ⟨rfl, rfl, rfl, rfl, trivial⟩ hs
 | p2 s cut i out =>
  dsimp only at hF
  intro tm st io0 hf hs
  refine en hf ?_
  obtain ⟨b_12, g_13, hF⟩ := bind_some hF
  refine rn 2 rfl ?_
  refine W.o (e_ixS rfl rfl g_13) ?_
  refine rn 2 rfl ?_
  refine bi hF (fun c_14 hF => ?_) (fun c_14 hF => ?_)
  · refine wfx 54 rfl c_14 ?_
    refine rn 7 rfl ?_
    refine bi hF (fun c_15 hF => ?_) (fun c_15 hF => ?_)
    · refine wfx 61 rfl c_15 ?_
      obtain ⟨b_16, g_17, hF⟩ := bind_some hF
      refine rn 3 rfl ?_
      refine W.on rfl rfl ?_
      refine W.o (e_ixS rfl rfl g_17) ?_
      refine rn 3 rfl ?_
      refine ci hF rfl (fun c_18 hF => ?_) (fun c_18 hF => ?_)
      · refine rn 2 rfl ?_
        refine bi hF (fun c_19 hF => ?_) (fun c_19 hF => ?_)
        · refine wfx 69 rfl c_19 ?_
          refine rn 4 rfl ?_
          refine ct rfl rfl ?_
          exact ih (.p3 i) _ hF _ _ ⟨rfl, trivial⟩ (hs.p 1 [] rfl)
        · refine wfx 69 rfl c_19 ?_
          refine rn 1 rfl ?_
          refine W.on rfl rfl ?_
          refine W.o (e_len (rd_W (o := out) (id := io0) rfl)) ?_
          refine rn 2 rfl ?_
          refine ci hF rfl (fun c_20 hF => ?_) (fun c_20 hF => ?_)
          · exact ih (.p3 i) _ hF _ _ ⟨rfl, trivial⟩ (hs.p 1 [] rfl)
          · refine rn 4 rfl ?_
            exact ih (.p1 s true (IntKind.wrap .i64 (i + 2)) out) _ hF _ _ io0 ⟨rfl, rfl, rfl, rfl, trivial⟩ hs
      · refine rj 0 2 rfl ?_
        exact ih (.p4 s i out) _ hF _ _ io0 ⟨rfl, rfl, rfl, trivial⟩ hs
    · refine wfx 61 rfl c_15 ?_
      refine rn 7 rfl ?_
      refine cf rfl rfl ?_
      refine rj 0 2 rfl ?_
      exact ih (.p4 s i out) _ hF _ _ io0 ⟨rfl, rfl, rfl, trivial⟩ hs
  · refine wfx 54 rfl c_14 ?_
    refine rn 14 rfl ?_
    refine cf rfl rfl ?_
    refine rj 0 2 rfl ?_
    exact ih (.p4 s i out) _ hF _ _ io0 ⟨rfl, rfl, rfl, trivial⟩ hs
 | p3 i =>
  dsimp only at hF
  intro tm st hf hs
  refine en hf ?_
  refine rn 5 rfl ?_
  cases hF
  exact rD (rlt (rlt (rlt rl0))) rfl
 | p4 s i out =>
  dsimp only at hF
  intro tm st io0 hf hs
  refine en hf ?_
  obtain ⟨r_21, g_22, hF⟩ := bind_some hF
  refine rn 2 rfl ?_
  refine df (d43 s i false _ g_22) rfl ?_
  refine rn 9 rfl ?_
  refine ci hF rfl (fun c_23 hF => ?_) (fun c_23 hF => ?_)
  · refine rn 4 rfl ?_
    cases hF
    exact rD (rlt (rlt (rlt rl0))) rfl
  · refine rn 2 rfl ?_
    refine bs (f := AV.int .u8) ([r_21.1] : List Int) hs rfl rfl rfl rfl fun st b_24 hs => ?_
    obtain ⟨g_25, hF⟩ := grd_some hF
    refine ap (ys := ls (some ([r_21.1] : List Int))) hs 1 rfl rfl (ae_rd (rd_W (o := (some ([r_21.1] : List Int))) (id := b_24) rfl)) g_25 (fun _ => rfl) fun st b_26 hs => ?_
    refine rn 4 rfl ?_
    exact ih (.p1 s false r_21.2.1 (sapp out (ls (some ([r_21.1] : List Int))))) _ hF _ _ b_26 ⟨rfl, rfl, rfl, rfl, trivial⟩ (hs.p 2 [1] rfl)
noncomputable def F28 (s : Str) : Option (Str × Int × Int) :=
 (G28 (.p1 s false 0 none))
theorem d28 (s : Str) (r : Str × Int × Int) (hF : F28 s = some r) : DFun Tryd.prog gE 28 [AV.str s] (AV.tup [AV.str r.1, AV.int .i64 r.2.1, AV.int .i64 r.2.2]) := by
 unfold F28 at hF
 refine bD k28 rfl ?_
 have hs : SH [] [] := SH.nil
 generalize ([] : Store) = st at hs ⊢
 refine rn 6 rfl ?_
 have hs := hs.ownNil Int
 exact w28 (.p1 s false 0 none) _ hF _ _ 0 ⟨rfl, rfl, rfl, rfl, trivial⟩ hs
/-! ### 29: paddock/paddockref01.Unlist -/
def C29_74 : ACode := .s (.ops [q 100 (.mv 8), q 2 (.mv (.c (.str []))), q 3 (.mv (ki 10)), q 4 (.mv 100)]) .ret
def C29_77 : ACode := .s (.ops [q 6 (.mv (.c (.bool true)))]) (.ops [q 7 (.mv (.c (.bool false)))])
def C29_51 : ACode := .s (.s (.ops [q 70 (.mv 9), q 71 (.binI .eql 70 (ku 92))]) (.cond 71 (.s (.ops [q 73 (.mv 0), q 74 (.mv 8), q 75 (.binI .add 74 (ki 1)), qc 76 44 [73, 75], q 72 (.mv 76), q 77 (.extract 72 0), q 78 (.extract 72 1), q 79 (.extract 72 2), q 10 (.mv 77), q 11 (.mv 78), q 12 (.mv 79)]) (.s (.s (.ops [q 80 (.mv 12), q 81 (.un .not 80)]) (.cond 81 (.s (.ops [q 82 (.mv 11), q 2 (.mv (.c (.str []))), q 3 (.mv (ki 10)), q 4 (.mv 82)]) .ret) .skip)) (.s (.ops [q 83 (.mv 5), q 84 (.mv 10), q 85 (.bslice 1 1 false [(.int .u8 0)] [(0, (1, 84))] false), q 86 (.app 1 1 83 85), q 5 (.mv 86)]) (.ops [q 87 (.mv 11), q 8 (.mv 87)])))) (.s (.ops [q 88 (.mv 9), q 89 (.binI .geq 88 (ku 32)), q 90 (.mv 89), (q 91 (.mv 9)).y 90, (q 92 (.binI .lss 91 (ku 127))).y 90, q 93 (.pick 90 92 (.c (.bool false)))]) (.cond 93 (.s (.ops [q 94 (.mv 5), q 95 (.mv 9), q 96 (.bslice 1 1 false [(.int .u8 0)] [(0, (1, 95))] false), q 97 (.app 1 1 94 96), q 5 (.mv 97)]) (.ops [q 98 (.mv 8), q 99 (.binI .add 98 (ki 1)), q 8 (.mv 99)])) C29_74)))) C29_77
def C29_39 : ACode := .s (.s (.ops [q 49 (.mv 9), q 50 (.binI .eql 49 (ku 92)), q 51 (.mv 50), (q 52 (.mv 6)).y 51, q 53 (.pick 51 52 (.c (.bool false))), q 54 (.mv 53), (q 55 (.mv 8)).y 54, (q 56 (.binI .add 55 (ki 1))).y 54, (q 57 (.mv 0)).y 54, (q 58 (.lenS 57)).y 54, (q 59 (.binI .lss 56 58)).y 54, q 60 (.pick 54 59 (.c (.bool false))), q 61 (.mv 60), (q 62 (.mv 0)).y 61, (q 63 (.mv 8)).y 61, (q 64 (.binI .add 63 (ki 1))).y 61, (q 65 (.ixS 62 64)).y 61, (q 66 (.binI .eql 65 (ku 10))).y 61, q 67 (.pick 61 66 (.c (.bool false)))]) (.cond 67 (.s (.ops [q 6 (.mv (.c (.bool false)))]) (.s (.ops [q 7 (.mv (.c (.bool true)))]) (.s (.ops [q 68 (.mv 8), q 69 (.binI .add 68 (ki 2)), q 8 (.mv 69)]) (.exit 1)))) .skip)) C29_51
def C29_23 : ACode := .s (.s (.ops [q 20 (.mv 9), q 21 (.binI .eql 20 (ku 36)), q 22 (.mv 21), (q 23 (.mv 7)).y 22, (q 24 (.un .not 23)).y 22, q 25 (.pick 22 24 (.c (.bool false))), q 26 (.mv 25), (q 27 (.mv 8)).y 26, (q 28 (.binI .add 27 (ki 1))).y 26, (q 29 (.mv 0)).y 26, (q 30 (.lenS 29)).y 26, (q 31 (.binI .lss 28 30)).y 26, q 32 (.pick 26 31 (.c (.bool false))), q 33 (.mv 32), (q 34 (.mv 0)).y 33, (q 35 (.mv 8)).y 33, (q 36 (.binI .add 35 (ki 1))).y 33, (q 37 (.ixS 34 36)).y 33, (q 38 (.binI .eql 37 (ku 10))).y 33, q 39 (.pick 33 38 (.c (.bool false)))]) (.cond 39 (.s (.s (.ops [q 40 (.mv 8), q 41 (.binI .add 40 (ki 2)), q 42 (.mv 0), q 43 (.lenS 42), q 44 (.binI .lss 41 43)]) (.cond 44 (.s (.ops [q 45 (.mv 8), q 46 (.binI .add 45 (ki 2)), q 2 (.mv (.c (.str []))), q 3 (.mv (ki 10)), q 4 (.mv 46)]) .ret) .skip)) (.s (.ops [q 47 (.mv 5), q 48 (.b2s 47), q 2 (.mv 48), q 3 (.mv (ki 0)), q 4 (.mv (ki 0))]) .ret)) .skip)) C29_39
def C29_14 : ACode := .s (.s (.ops [q 13 (.mv 8), q 14 (.mv 0), q 15 (.lenS 14), q 16 (.binI .lss 13 15)]) (.cond 16 .skip (.exit 0))) (.block 1 (.s (.ops [q 17 (.mv 0), q 18 (.mv 8), q 19 (.ixS 17 18), q 9 (.mv 19)]) C29_23))
def C29_80 : ACode := .s (.ops [q 101 (.mv 0), q 102 (.lenS 101), q 2 (.mv (.c (.str []))), q 3 (.mv (ki 10)), q 4 (.mv 102)]) .ret
def C29_1 : ACode := .s (.ops [q 2 (.mv (.c (.str []))), q 3 (.mv (ki 0)), q 4 (.mv (ki 0))]) (.s (.ops [q 5 (.mv (.c .nils))]) (.s (.ops [q 6 (.mv (.c (.bool false)))]) (.s (.ops [q 7 (.mv (.c (.bool false)))]) (.s (.ops [q 8 (.mv (ki 0))]) (.s (.block 0 (.loop C29_14)) C29_80)))))
def R29 : List RA := [(.tmp 2), (.tmp 3), (.tmp 4)]
theorem k29 : compF Tryd.prog (muL []) 29 = some ⟨103, C29_1, R29⟩ := by kernel_rfl
noncomputable abbrev X29 (r : Str × Int × Int) : Cx := cD Tryd.prog gE 103 R29 (AV.tup [AV.str r.1, AV.int .i64 r.2.1, AV.int .i64 r.2.2])
inductive St29 where
 | p1 (s : Str) (between : Bool) (broken : Bool) (i : Int) (out : Sl Int)
 | p2 (s : Str) (between : Bool) (i : Int) (c : Int) (out : Sl Int)
 | p3 (s : Str) (i : Int) (c : Int) (out : Sl Int)
 | p4 (i : Int)
noncomputable def G29 : St29 → Option (Str × Int × Int)
 | .p1 s between broken i out =>
  (if (decide (i < ((s).length : Int))) = true then
   (ix s i >>= fun b_3 =>
    (if ((b_3.toNat : Int) == 36) = true then
     (if (!broken) = true then
      (if (decide ((IntKind.wrap .i64 (i + 1)) < ((s).length : Int))) = true then
       (ix s (IntKind.wrap .i64 (i + 1)) >>= fun b_8 =>
        (if ((b_8.toNat : Int) == 10) = true then
         (if (decide ((IntKind.wrap .i64 (i + 2)) < ((s).length : Int))) = true then
          (some (([] : Str), 10, IntKind.wrap .i64 (i + 2)))
         else
          (some (toBs (ls out), 0, 0)))
        else
         (G29 (.p2 s between i (b_3.toNat : Int) out))))
      else
       (G29 (.p2 s between i (b_3.toNat : Int) out)))
     else
      (G29 (.p2 s between i (b_3.toNat : Int) out)))
    else
     (G29 (.p2 s between i (b_3.toNat : Int) out))))
  else
   (some (([] : Str), 10, ((s).length : Int))))
 | .p2 s between i c out =>
  (if (c == 92) = true then
   (if between = true then
    (if (decide ((IntKind.wrap .i64 (i + 1)) < ((s).length : Int))) = true then
     (ix s (IntKind.wrap .i64 (i + 1)) >>= fun b_15 =>
      (if ((b_15.toNat : Int) == 10) = true then
       (G29 (.p1 s false true (IntKind.wrap .i64 (i + 2)) out))
      else
       (G29 (.p3 s i c out))))
    else
     (G29 (.p3 s i c out)))
   else
    (G29 (.p3 s i c out)))
  else
   (G29 (.p3 s i c out)))
 | .p3 s i c out =>
  (if (c == 92) = true then
   (F44 s (IntKind.wrap .i64 (i + 1)) >>= fun r_19 =>
    (if (!r_19.2.2) = true then
     (some (([] : Str), 10, r_19.2.1))
    else
     (if ((ls out).length + (ls (some ([r_19.1] : List Int))).length) * 1 ≤ 140737488355328 then
      (G29 (.p1 s true false r_19.2.1 (sapp out (ls (some ([r_19.1] : List Int))))))
     else none)))
  else
   (if (decide (c ≥ 32)) = true then
    (if (decide (c < 127)) = true then
     (if ((ls out).length + (ls (some ([c] : List Int))).length) * 1 ≤ 140737488355328 then
      (G29 (.p1 s true false (IntKind.wrap .i64 (i + 1)) (sapp out (ls (some ([c] : List Int))))))
     else none)
    else
     (G29 (.p4 i)))
   else
    (G29 (.p4 i))))
 | .p4 i =>
  (some (([] : Str), 10, i))
 partial_fixpoint
def M29 (x : St29) (r : Str × Int × Int) : Prop := match x with
 | .p1 s between broken i out => ∀ (tm : Fr) (st : Store) (io0 : Nat), Frm tm [(0, AV.str s), (5, ownV 1 (AV.int .u8) out io0), (6, AV.bool between), (7, AV.bool broken), (8, AV.int .i64 i)] → SH st [ownA io0 out] → W (X29 r) [.lp C29_14, .blk 0, .code C29_80] tm st
 | .p2 s between i c out => ∀ (tm : Fr) (st : Store) (io0 : Nat), Frm tm [(0, AV.str s), (5, ownV 1 (AV.int .u8) out io0), (6, AV.bool between), (8, AV.int .i64 i), (9, AV.int .u8 c)] → SH st [ownA io0 out] → W (X29 r) [.code C29_39, .blk 1, .lp C29_14, .blk 0, .code C29_80] tm st
 | .p3 s i c out => ∀ (tm : Fr) (st : Store) (io0 : Nat), Frm tm [(0, AV.str s), (5, ownV 1 (AV.int .u8) out io0), (8, AV.int .i64 i), (9, AV.int .u8 c)] → SH st [ownA io0 out] → W (X29 r) [.code C29_51, .blk 1, .lp C29_14, .blk 0, .code C29_80] tm st
 | .p4 i => ∀ (tm : Fr) (st : Store), Frm tm [(8, AV.int .i64 i)] → SH st [] → W (X29 r) [.code C29_74, .code C29_77, .blk 1, .lp C29_14, .blk 0, .code C29_80] tm st
theorem w29 : ∀ (x : St29) (r : Str × Int × Int), G29 x = some r → M29 x r := by
 refine G29.partial_correctness M29 ?_
 intro g ih x r hF
 cases x with
 | p1 s between broken i out =>
  dsimp only at hF
  intro tm st io0 hf hs
  refine en hf ?_
  refine lp ?_
  refine rn 4 rfl ?_
  refine ci hF rfl (fun c_2 hF => ?_) (fun c_2 hF => ?_)
  · obtain ⟨b_3, g_4, hF⟩ := bind_some hF
    refine rn 2 rfl ?_
    refine W.o (e_ixS rfl rfl g_4) ?_
    refine rn 4 rfl ?_
    refine bi hF (fun c_5 hF => ?_) (fun c_5 hF => ?_)
    · refine wfx 22 rfl c_5 ?_
      refine rn 4 rfl ?_
      refine bi hF (fun c_6 hF => ?_) (fun c_6 hF => ?_)
      · refine wfx 26 rfl c_6 ?_
        refine rn 7 rfl ?_
        refine bi hF (fun c_7 hF => ?_) (fun c_7 hF => ?_)
        · refine wfx 33 rfl c_7 ?_
          obtain ⟨b_8, g_9, hF⟩ := bind_some hF
          refine rn 3 rfl ?_
          refine W.on rfl rfl ?_
          refine W.o (e_ixS rfl rfl g_9) ?_
          refine rn 2 rfl ?_
          refine ci hF rfl (fun c_10 hF => ?_) (fun c_10 hF => ?_)
          · refine rn 5 rfl ?_
            refine ci hF rfl (fun c_11 hF => ?_) (fun c_11 hF => ?_)
            · refine rn 5 rfl ?_
              cases hF
              exact rD (rlt (rlt (rlt rl0))) rfl
            · refine rn 1 rfl ?_
              refine W.o (e_b2s (rd_W (o := out) (id := io0) rfl)) ?_
              refine rn 3 rfl ?_
              cases hF
              exact rD (rlt (rlt (rlt rl0))) rfl
          · refine rj 0 1 rfl ?_
            exact ih (.p2 s between i (b_3.toNat : Int) out) _ hF _ _ io0 ⟨rfl, rfl, rfl, rfl, rfl, trivial⟩ hs
        · refine wfx 33 rfl c_7 ?_
          refine rn 6 rfl ?_
          refine cf rfl rfl ?_
          refine rj 0 1 rfl ?_
          exact ih (.p2 s between i (b_3.toNat : Int) out) _ hF _ _ io0 ⟨rfl, rfl, rfl, rfl, rfl, trivial⟩ hs
      · refine wfx 26 rfl c_6 ?_
        refine rn 13 rfl ?_
        refine cf rfl rfl ?_
        refine rj 0 1 rfl ?_
        exact ih (.p2 s between i (b_3.toNat : Int) out) _ hF _ _ io0 ⟨rfl, rfl, rfl, rfl, rfl, trivial⟩ hs
    · refine wfx 22 rfl c_5 ?_
      refine rn 17 rfl ?_
      refine cf rfl rfl ?_
      refine rj 0 1 rfl ?_
      exact ih (.p2 s between i (b_3.toNat : Int) out) _ hF _ _ io0 ⟨rfl, rfl, rfl, rfl, rfl, trivial⟩ hs
  · refine rn 5 rfl ?_
    cases hF
    exact rD (rlt (rlt (rlt rl0))) rfl
 | p2 s between i c out =>
  dsimp only at hF
  intro tm st io0 hf hs
  refine en hf ?_
  refine rn 3 rfl ?_
  refine bi hF (fun c_12 hF => ?_) (fun c_12 hF => ?_)
  · refine wfx 51 rfl c_12 ?_
    refine rn 3 rfl ?_
    refine bi hF (fun c_13 hF => ?_) (fun c_13 hF => ?_)
    · refine wfx 54 rfl c_13 ?_
      refine rn 7 rfl ?_
      refine bi hF (fun c_14 hF => ?_) (fun c_14 hF => ?_)
      · refine wfx 61 rfl c_14 ?_
        obtain ⟨b_15, g_16, hF⟩ := bind_some hF
        refine rn 3 rfl ?_
        refine W.on rfl rfl ?_
        refine W.o (e_ixS rfl rfl g_16) ?_
        refine rn 2 rfl ?_
        refine ci hF rfl (fun c_17 hF => ?_) (fun c_17 hF => ?_)
        · refine rn 5 rfl ?_
          exact ih (.p1 s false true (IntKind.wrap .i64 (i + 2)) out) _ hF _ _ io0 ⟨rfl, rfl, rfl, rfl, rfl, trivial⟩ hs
        · refine rj 0 1 rfl ?_
          exact ih (.p3 s i c out) _ hF _ _ io0 ⟨rfl, rfl, rfl, rfl, trivial⟩ hs
      · refine wfx 61 rfl c_14 ?_
        refine rn 6 rfl ?_
        refine cf rfl rfl ?_
        refine rj 0 1 rfl ?_
        exact ih (.p3 s i c out) _ hF _ _ io0 ⟨rfl, rfl, rfl, rfl, trivial⟩ hs
    · refine wfx 54 rfl c_13 ?_
      refine rn 13 rfl ?_
      refine cf rfl rfl ?_
      refine rj 0 1 rfl ?_
      exact ih (.p3 s i c out) _ hF _ _ io0 ⟨rfl, rfl, rfl, rfl, trivial⟩ hs
  · refine wfx 51 rfl c_12 ?_
    refine rn 16 rfl ?_
    refine cf rfl rfl ?_
    refine rj 0 1 rfl ?_
    exact ih (.p3 s i c out) _ hF _ _ io0 ⟨rfl, rfl, rfl, rfl, trivial⟩ hs
 | p3 s i c out =>
  dsimp only at hF
  intro tm st io0 hf hs
  refine en hf ?_
  refine rn 2 rfl ?_
  refine ci hF rfl (fun c_18 hF => ?_) (fun c_18 hF => ?_)
  · obtain ⟨r_19, g_20, hF⟩ := bind_some hF
    refine rn 3 rfl ?_
    refine df (d44 s (IntKind.wrap .i64 (i + 1)) _ g_20) rfl ?_
    refine rn 9 rfl ?_
    refine ci hF rfl (fun c_21 hF => ?_) (fun c_21 hF => ?_)
    · refine rn 4 rfl ?_
      cases hF
      exact rD (rlt (rlt (rlt rl0))) rfl
    · refine rn 2 rfl ?_
      refine bs (f := AV.int .u8) ([r_19.1] : List Int) hs rfl rfl rfl rfl fun st b_22 hs => ?_
      obtain ⟨g_23, hF⟩ := grd_some hF
      refine ap (ys := ls (some ([r_19.1] : List Int))) hs 1 rfl rfl (ae_rd (rd_W (o := (some ([r_19.1] : List Int))) (id := b_22) rfl)) g_23 (fun _ => rfl) fun st b_24 hs => ?_
      refine rn 5 rfl ?_
      exact ih (.p1 s true false r_19.2.1 (sapp out (ls (some ([r_19.1] : List Int))))) _ hF _ _ b_24 ⟨rfl, rfl, rfl, rfl, rfl, trivial⟩ (hs.p 2 [1] rfl)
  · refine rn 3 rfl ?_
    refine bi hF (fun c_25 hF => ?_) (fun c_25 hF => ?_)
    · refine wfx 90 rfl c_25 ?_
      refine rn 3 rfl ?_
      refine ci hF rfl (fun c_26 hF => ?_) (fun c_26 hF => ?_)
      · refine rn 2 rfl ?_
        refine bs (f := AV.int .u8) ([c] : List Int) hs rfl rfl rfl rfl fun st b_27 hs => ?_
        obtain ⟨g_28, hF⟩ := grd_some hF
        refine ap (ys := ls (some ([c] : List Int))) hs 1 rfl rfl (ae_rd (rd_W (o := (some ([c] : List Int))) (id := b_27) rfl)) g_28 (fun _ => rfl) fun st b_29 hs => ?_
        refine rn 6 rfl ?_
        exact ih (.p1 s true false (IntKind.wrap .i64 (i + 1)) (sapp out (ls (some ([c] : List Int))))) _ hF _ _ b_29 ⟨rfl, rfl, rfl, rfl, rfl, trivial⟩ (hs.p 2 [1] rfl)
      · exact ih (.p4 i) _ hF _ _ ⟨rfl, trivial⟩ (hs.p 1 [] rfl)
    · refine wfx 90 rfl c_25 ?_
      refine rn 3 rfl ?_
      refine cf rfl rfl ?_
      exact ih (.p4 i) _ hF _ _ ⟨rfl, trivial⟩ (hs.p 1 [] rfl)
 | p4 i =>
  dsimp only at hF
  intro tm st hf hs
  refine en hf ?_
  refine rn 4 rfl ?_
  cases hF
  exact rD (rlt (rlt (rlt rl0))) rfl
noncomputable def F29 (s : Str) : Option (Str × Int × Int) :=
 (G29 (.p1 s false false 0 none))
theorem d29 (s : Str) (r : Str × Int × Int) (hF : F29 s = some r) : DFun Tryd.prog gE 29 [AV.str s] (AV.tup [AV.str r.1, AV.int .i64 r.2.1, AV.int .i64 r.2.2]) := by
 unfold F29 at hF
 refine bD k29 rfl ?_
 have hs : SH [] [] := SH.nil
 generalize ([] : Store) = st at hs ⊢
 refine rn 7 rfl ?_
 have hs := hs.ownNil Int
 exact w29 (.p1 s false false 0 none) _ hF _ _ 0 ⟨rfl, rfl, rfl, rfl, rfl, trivial⟩ hs
/-! ### 8: paddock/paddocklaw01.LinesLists -/
def O8_12o1 : List AOp := (q 65 (.binI .eql 63 64)).y 62 :: q 66 (.pick 62 65 (.c (.bool false))) :: q 6 (.mv 66) :: []
def O8_12o0 : List AOp := qc 41 13 [] :: q 42 (.mv 41) :: (q 43 (.mv 7)).y 42 :: (q 44 (.mv 9)).y 42 :: (q 45 (.binS .eql 43 44)).y 42 :: q 46 (.pick 42 45 (.c (.bool false))) :: q 47 (.mv 46) :: (q 48 (.mv 8)).y 47 :: (q 49 (.mv 10)).y 47 :: (q 50 (.binI .eql 48 49)).y 47 :: q 51 (.pick 47 50 (.c (.bool false))) :: q 52 (.mv 51) :: (q 53 (.mv 11)).y 52 :: (q 54 (.mv 14)).y 52 :: (q 55 (.binS .eql 53 54)).y 52 :: q 56 (.pick 52 55 (.c (.bool false))) :: q 57 (.mv 56) :: (q 58 (.mv 12)).y 57 :: (q 59 (.mv 15)).y 57 :: (q 60 (.binI .eql 58 59)).y 57 :: q 61 (.pick 57 60 (.c (.bool false))) :: q 62 (.mv 61) :: (q 63 (.mv 13)).y 62 :: (q 64 (.mv 16)).y 62 :: O8_12o1
def C8_1 : ACode := .s (.ops [q 6 (.mv (.c (.bool false)))]) (.s (.ops [q 18 (.mv 0), q 19 (.mv 1), qc 20 26 [18, 19], q 17 (.mv 20), q 21 (.extract 17 0), q 22 (.extract 17 1), q 7 (.mv 21), q 8 (.mv 22)]) (.s (.ops [q 24 (.mv 0), q 25 (.mv 1), qc 26 27 [24, 25], q 23 (.mv 26), q 27 (.extract 23 0), q 28 (.extract 23 1), q 9 (.mv 27), q 10 (.mv 28)]) (.s (.ops [q 30 (.mv 2), qc 31 28 [30], q 29 (.mv 31), q 32 (.extract 29 0), q 33 (.extract 29 1), q 34 (.extract 29 2), q 11 (.mv 32), q 12 (.mv 33), q 13 (.mv 34)]) (.s (.ops [q 36 (.mv 2), qc 37 29 [36], q 35 (.mv 37), q 38 (.extract 35 0), q 39 (.extract 35 1), q 40 (.extract 35 2), q 14 (.mv 38), q 15 (.mv 39), q 16 (.mv 40)]) (.s (.ops O8_12o0) .ret)))))
def R8 : List RA := [(.tmp 6)]
theorem k8 : compF Tryd.prog (muL []) 8 = some ⟨67, C8_1, R8⟩ := by kernel_rfl
noncomputable abbrev X8 (r : Bool) : Cx := cD Tryd.prog gE 67 R8 (AV.bool r)
noncomputable def F8 (s : Str) (width : Int) (t : Str) : Option Bool :=
 (F26 s width >>= fun r_1 =>
  (F27 s width >>= fun r_3 =>
   (F28 t >>= fun r_5 =>
    (F29 t >>= fun r_7 =>
     (F13 >>= fun r_9 =>
      (if r_9 = true then
       (if (r_1.1 == r_3.1) = true then
        (if (r_1.2 == r_3.2) = true then
         (if (r_5.1 == r_7.1) = true then
          (if (r_5.2.1 == r_7.2.1) = true then
           (some (r_5.2.2 == r_7.2.2))
          else
           (some false))
         else
          (some false))
        else
         (some false))
       else
        (some false))
      else
       (some false)))))))
theorem d8 (s : Str) (width : Int) (t : Str) (r : Bool) (hF : F8 s width t = some r) : DFun Tryd.prog gE 8 [AV.str s, AV.int .i64 width, AV.str t] (AV.bool r) := by
 unfold F8 at hF
 refine bD k8 rfl ?_
 have hs : SH [] [] := SH.nil
 generalize ([] : Store) = st at hs ⊢
 obtain ⟨r_1, g_2, hF⟩ := bind_some hF
 refine rn 3 rfl ?_
 refine df (d26 s width _ g_2) rfl ?_
 obtain ⟨r_3, g_4, hF⟩ := bind_some hF
 refine rn 7 rfl ?_
 refine df (d27 s width _ g_4) rfl ?_
 obtain ⟨r_5, g_6, hF⟩ := bind_some hF
 refine rn 6 rfl ?_
 refine df (d28 t _ g_6) rfl ?_
 obtain ⟨r_7, g_8, hF⟩ := bind_some hF
 refine rn 8 rfl ?_
 refine df (d29 t _ g_8) rfl ?_
 obtain ⟨r_9, g_10, hF⟩ := bind_some hF
 refine rn 7 rfl ?_
 refine df (d13 _ g_10) rfl ?_
 refine rn 1 rfl ?_
 refine bi hF (fun c_11 hF => ?_) (fun c_11 hF => ?_)
 · refine wfx 42 rfl c_11 ?_
   refine rn 5 rfl ?_
   refine bi hF (fun c_12 hF => ?_) (fun c_12 hF => ?_)
   · refine wfx 47 rfl c_12 ?_
     refine rn 5 rfl ?_
     refine bi hF (fun c_13 hF => ?_) (fun c_13 hF => ?_)
     · refine wfx 52 rfl c_13 ?_
       refine rn 5 rfl ?_
       refine bi hF (fun c_14 hF => ?_) (fun c_14 hF => ?_)
       · refine wfx 57 rfl c_14 ?_
         refine rn 5 rfl ?_
         refine bi hF (fun c_15 hF => ?_) (fun c_15 hF => ?_)
         · refine wfx 62 rfl c_15 ?_
           refine rn 5 rfl ?_
           cases hF
           exact rD (rlt rl0) rfl
         · refine wfx 62 rfl c_15 ?_
           refine rn 5 rfl ?_
           cases hF
           exact rD (rlt rl0) rfl
       · refine wfx 57 rfl c_14 ?_
         refine rn 10 rfl ?_
         cases hF
         exact rD (rlt rl0) rfl
     · refine wfx 52 rfl c_13 ?_
       refine rn 15 rfl ?_
       cases hF
       exact rD (rlt rl0) rfl
   · refine wfx 47 rfl c_12 ?_
     refine rn 20 rfl ?_
     cases hF
     exact rD (rlt rl0) rfl
 · refine wfx 42 rfl c_11 ?_
   refine rn 25 rfl ?_
   cases hF
   exact rD (rlt rl0) rfl
end Go.Proofs.YtllhdbdbdblimaaDoor
