/-
  Functions of the program's as plain functions.
-/
import Derived.Test.YtfjdegohjnejkaaTy
set_option linter.unusedVariables false
set_option maxRecDepth 4000
set_option maxHeartbeats 4000000
namespace Go.Proofs.Ytfjdegohjnejkaa
open Go AW
attribute [local irreducible] W WD SH XS XLoop DFun XCall
/-! ### 17: paddock/sets.Has -/
def C17_1 : ACode := .s (.ops [q 2 (.box 4 0), q 4 (.mv (.c (.bool false)))]) (.s (.ops [q 5 (.mv 1), q 6 (.binI .quo 5 (ku 64)), q 7 (.iaddrA 4 1 2 6), q 8 (.load1 7), q 9 (.mv 1), q 10 (.binI .rem 9 (ku 64)), q 11 (.binI .shr 8 10), q 12 (.binI .and 11 (.c (.int .u64 1))), q 13 (.binI .eql 12 (.c (.int .u64 1))), q 4 (.mv 13)]) .ret)
def R17 : List RA := [(.tmp 4)]
theorem k17 : compF Try.prog (muL []) 17 = some ⟨14, C17_1, R17⟩ := by kernel_rfl
noncomputable abbrev X17 (r : Bool) : Cx := cD Try.prog noG 14 R17 (AV.bool r)
noncomputable def F17 (s : Arr 4 Int) (c : Int) : Option Bool :=
 (if 0 ≤ (IntKind.wrap .u8 (Int.tdiv c 64)) ∧ (IntKind.wrap .u8 (Int.tdiv c 64)) < (4 : Int) then
  (ix s.l (IntKind.wrap .u8 (Int.tdiv c 64)) >>= fun v_3 =>
   (if 0 ≤ (Int.tmod c 64) then
    (some ((andI .u64 (shrI .u64 v_3 (Int.tmod c 64)) 1) == 1))
   else none))
 else none)
theorem d17 (s : Arr 4 Int) (c : Int) (r : Bool) (hF : F17 s c = some r) : DFun Try.prog noG 17 [v24 s, AV.int .u8 c] (AV.bool r) := by
 unfold F17 at hF
 refine bD k17 rfl ?_
 have hs : SH [] [] := SH.nil
 generalize ([] : Store) = st at hs ⊢
 refine rn 0 rfl ?_
 refine bx hs (cs := c24 s) rfl rfl fun st b_1 hs => ?_
 refine rn 2 rfl ?_
 refine W.o (e_bin rfl rfl (op_quo _ _ _ (by decide))) ?_
 obtain ⟨g_2, hF⟩ := grd_some hF
 refine W.o (e_iaddrA rfl (hs.g 0 rfl) rfl g_2) ?_
 obtain ⟨v_3, g_4, hF⟩ := bind_some hF
 refine W.o (e_load1 rfl (hs.g 0 rfl) (LR.comp (LR.whole _ _) (lrF_get (cI_len .u64) g_4))) ?_
 refine rn 1 rfl ?_
 refine W.o (e_bin rfl rfl (op_rem _ _ _ (by decide))) ?_
 obtain ⟨g_5, hF⟩ := grd_some hF
 refine W.o (e_bin rfl rfl (op_shr _ _ _ _ g_5)) ?_
 refine rn 3 rfl ?_
 cases hF
 exact rD (rlt rl0) rfl
/-! ### 18: paddock/paddockref07.Has -/
def C18_1 : ACode := .s (.ops [q 2 (.box 4 0), q 4 (.mv (.c (.bool false)))]) (.s (.ops [q 5 (.mv 1), q 6 (.binI .quo 5 (ku 64)), q 7 (.iaddrA 4 1 2 6), q 8 (.load1 7), q 9 (.mv 1), q 10 (.binI .rem 9 (ku 64)), q 11 (.binI .shr 8 10), q 12 (.binI .and 11 (.c (.int .u64 1))), q 13 (.binI .eql 12 (.c (.int .u64 1))), q 4 (.mv 13)]) .ret)
def R18 : List RA := [(.tmp 4)]
theorem k18 : compF Try.prog (muL []) 18 = some ⟨14, C18_1, R18⟩ := by kernel_rfl
noncomputable abbrev X18 (r : Bool) : Cx := cD Try.prog noG 14 R18 (AV.bool r)
noncomputable def F18 (s : Arr 4 Int) (c : Int) : Option Bool :=
 (if 0 ≤ (IntKind.wrap .u8 (Int.tdiv c 64)) ∧ (IntKind.wrap .u8 (Int.tdiv c 64)) < (4 : Int) then
  (ix s.l (IntKind.wrap .u8 (Int.tdiv c 64)) >>= fun v_3 =>
   (if 0 ≤ (Int.tmod c 64) then
    (some ((andI .u64 (shrI .u64 v_3 (Int.tmod c 64)) 1) == 1))
   else none))
 else none)
theorem d18 (s : Arr 4 Int) (c : Int) (r : Bool) (hF : F18 s c = some r) : DFun Try.prog noG 18 [v24 s, AV.int .u8 c] (AV.bool r) := by
 unfold F18 at hF
 refine bD k18 rfl ?_
 have hs : SH [] [] := SH.nil
 generalize ([] : Store) = st at hs ⊢
 refine rn 0 rfl ?_
 refine bx hs (cs := c24 s) rfl rfl fun st b_1 hs => ?_
 refine rn 2 rfl ?_
 refine W.o (e_bin rfl rfl (op_quo _ _ _ (by decide))) ?_
 obtain ⟨g_2, hF⟩ := grd_some hF
 refine W.o (e_iaddrA rfl (hs.g 0 rfl) rfl g_2) ?_
 obtain ⟨v_3, g_4, hF⟩ := bind_some hF
 refine W.o (e_load1 rfl (hs.g 0 rfl) (LR.comp (LR.whole _ _) (lrF_get (cI_len .u64) g_4))) ?_
 refine rn 1 rfl ?_
 refine W.o (e_bin rfl rfl (op_rem _ _ _ (by decide))) ?_
 obtain ⟨g_5, hF⟩ := grd_some hF
 refine W.o (e_bin rfl rfl (op_shr _ _ _ _ g_5)) ?_
 refine rn 3 rfl ?_
 cases hF
 exact rD (rlt rl0) rfl
/-! ### 36: paddock/sets.add -/
def C36_1 : ACode := .s (.ops [q 2 (.box 4 0), q 4 (.alloc [(.int .u64 0), (.int .u64 0), (.int .u64 0), (.int .u64 0)])]) (.s (.ops [q 5 (.mv 1), q 6 (.binI .quo 5 (ku 64)), q 7 (.iaddrA 4 1 2 6), q 8 (.load1 7), q 9 (.mv 1), q 10 (.binI .rem 9 (ku 64)), q 11 (.binI .shl (.c (.int .u64 1)) 10), q 12 (.binI .or 8 11), q 13 (.iaddrA 4 1 2 6), q0 (.store 1 13 12)]) (.s (.ops [q 14 (.loadN 4 2), q0 (.store 4 4 14)]) .ret))
def R36 : List RA := [(.cellN 4 4)]
theorem k36 : compF Try.prog (muL []) 36 = some ⟨15, C36_1, R36⟩ := by kernel_rfl
noncomputable abbrev X36 (r : Arr 4 Int) : Cx := cD Try.prog noG 15 R36 (v24 r)
noncomputable def F36 (s : Arr 4 Int) (c : Int) : Option (Arr 4 Int) :=
 (if 0 ≤ (IntKind.wrap .u8 (Int.tdiv c 64)) ∧ (IntKind.wrap .u8 (Int.tdiv c 64)) < (4 : Int) then
  (ix s.l (IntKind.wrap .u8 (Int.tdiv c 64)) >>= fun v_4 =>
   (if 0 ≤ (Int.tmod c 64) then
    (if 0 ≤ (IntKind.wrap .u8 (Int.tdiv c 64)) ∧ (IntKind.wrap .u8 (Int.tdiv c 64)) < (4 : Int) then
     (some (aset s (IntKind.wrap .u8 (Int.tdiv c 64)) (orI .u64 v_4 (shlI .u64 1 (Int.tmod c 64)))))
    else none)
   else none))
 else none)
theorem d36 (s : Arr 4 Int) (c : Int) (r : Arr 4 Int) (hF : F36 s c = some r) : DFun Try.prog noG 36 [v24 s, AV.int .u8 c] (v24 r) := by
 unfold F36 at hF
 refine bD k36 rfl ?_
 have hs : SH [] [] := SH.nil
 generalize ([] : Store) = st at hs ⊢
 refine rn 0 rfl ?_
 refine bx hs (cs := c24 s) rfl rfl fun st b_1 hs => ?_
 refine al hs (cs := c24 (Arr.rep 4 0)) rfl fun st b_2 hs => ?_
 refine rn 1 rfl ?_
 refine W.o (e_bin rfl rfl (op_quo _ _ _ (by decide))) ?_
 obtain ⟨g_3, hF⟩ := grd_some hF
 refine W.o (e_iaddrA rfl (hs.g 1 rfl) rfl g_3) ?_
 obtain ⟨v_4, g_5, hF⟩ := bind_some hF
 refine W.o (e_load1 rfl (hs.g 1 rfl) (LR.comp (LR.whole _ _) (lrF_get (cI_len .u64) g_5))) ?_
 refine rn 1 rfl ?_
 refine W.o (e_bin rfl rfl (op_rem _ _ _ (by decide))) ?_
 obtain ⟨g_6, hF⟩ := grd_some hF
 refine W.o (e_bin rfl rfl (op_shl _ _ _ _ g_6)) ?_
 obtain ⟨g_7, hF⟩ := grd_some hF
 refine rn 1 rfl ?_
 refine W.o (e_iaddrA rfl (hs.g 1 rfl) rfl g_7) ?_
 obtain ⟨y_8, g_9⟩ := ix_in s g_7 rfl
 refine sl hs 1 rfl rfl (LR.comp (LR.whole _ _) (lrF_set (cI_len .u64) g_9 (orI .u64 v_4 (shlI .u64 1 (Int.tmod c 64))))) ((cI_len .u64) _) rfl ((cI_len .u64) _) ((cI_one .u64) _) rfl fun st hs => ?_
 refine rn 0 rfl ?_
 refine W.o (lN (s := c24 (aset s (IntKind.wrap .u8 (Int.tdiv c 64)) (orI .u64 v_4 (shlI .u64 1 (Int.tmod c 64))))) rfl (hs.g 1 rfl) rfl rfl) ?_
 refine sr hs 0 rfl rfl rfl (cs' := c24 (aset s (IntKind.wrap .u8 (Int.tdiv c 64)) (orI .u64 v_4 (shlI .u64 1 (Int.tmod c 64))))) rfl rfl fun st hs => ?_
 refine rn 0 rfl ?_
 cases hF
 exact rD (rl_cellN rfl (hs.g 0 rfl) (LR.whole _ _) (c24_len _) rl0) rfl
/-! ### 35: paddock/paddockref07.Add -/
def C35_1 : ACode := .s (.ops [q 2 (.box 4 0), q 4 (.alloc [(.int .u64 0), (.int .u64 0), (.int .u64 0), (.int .u64 0)])]) (.s (.s (.ops [q 5 (.loadN 4 2), q 6 (.mv 1), qc 7 18 [5, 6], q 8 (.un .not 7)]) (.cond 8 (.ops [q 9 (.mv 1), q 10 (.binI .quo 9 (ku 64)), q 11 (.iaddrA 4 1 2 10), q 12 (.load1 11), q 13 (.mv 1), q 14 (.binI .rem 13 (ku 64)), q 15 (.binI .shl (.c (.int .u64 1)) 14), q 16 (.binI .add 12 15), q 17 (.iaddrA 4 1 2 10), q0 (.store 1 17 16)]) .skip)) (.s (.ops [q 18 (.loadN 4 2), q0 (.store 4 4 18)]) .ret))
def R35 : List RA := [(.cellN 4 4)]
theorem k35 : compF Try.prog (muL []) 35 = some ⟨19, C35_1, R35⟩ := by kernel_rfl
noncomputable abbrev X35 (r : Arr 4 Int) : Cx := cD Try.prog noG 19 R35 (v24 r)
noncomputable def F35 (s : Arr 4 Int) (c : Int) : Option (Arr 4 Int) :=
 (F18 s c >>= fun r_3 =>
  (if (!r_3) = true then
   (if 0 ≤ (IntKind.wrap .u8 (Int.tdiv c 64)) ∧ (IntKind.wrap .u8 (Int.tdiv c 64)) < (4 : Int) then
    (ix s.l (IntKind.wrap .u8 (Int.tdiv c 64)) >>= fun v_7 =>
     (if 0 ≤ (Int.tmod c 64) then
      (if 0 ≤ (IntKind.wrap .u8 (Int.tdiv c 64)) ∧ (IntKind.wrap .u8 (Int.tdiv c 64)) < (4 : Int) then
       (some (aset s (IntKind.wrap .u8 (Int.tdiv c 64)) (IntKind.wrap .u64 (v_7 + (shlI .u64 1 (Int.tmod c 64))))))
      else none)
     else none))
   else none)
  else
   (some s)))
theorem d35 (s : Arr 4 Int) (c : Int) (r : Arr 4 Int) (hF : F35 s c = some r) : DFun Try.prog noG 35 [v24 s, AV.int .u8 c] (v24 r) := by
 unfold F35 at hF
 refine bD k35 rfl ?_
 have hs : SH [] [] := SH.nil
 generalize ([] : Store) = st at hs ⊢
 refine rn 0 rfl ?_
 refine bx hs (cs := c24 s) rfl rfl fun st b_1 hs => ?_
 refine al hs (cs := c24 (Arr.rep 4 0)) rfl fun st b_2 hs => ?_
 refine rn 0 rfl ?_
 refine W.o (lN (s := c24 s) rfl (hs.g 1 rfl) rfl rfl) ?_
 obtain ⟨r_3, g_4, hF⟩ := bind_some hF
 refine rn 1 rfl ?_
 refine df (d18 s c _ g_4) rfl ?_
 refine rn 1 rfl ?_
 refine ci hF rfl (fun c_5 hF => ?_) (fun c_5 hF => ?_)
 · refine rn 1 rfl ?_
   refine W.o (e_bin rfl rfl (op_quo _ _ _ (by decide))) ?_
   obtain ⟨g_6, hF⟩ := grd_some hF
   refine W.o (e_iaddrA rfl (hs.g 1 rfl) rfl g_6) ?_
   obtain ⟨v_7, g_8, hF⟩ := bind_some hF
   refine W.o (e_load1 rfl (hs.g 1 rfl) (LR.comp (LR.whole _ _) (lrF_get (cI_len .u64) g_8))) ?_
   refine rn 1 rfl ?_
   refine W.o (e_bin rfl rfl (op_rem _ _ _ (by decide))) ?_
   obtain ⟨g_9, hF⟩ := grd_some hF
   refine W.o (e_bin rfl rfl (op_shl _ _ _ _ g_9)) ?_
   obtain ⟨g_10, hF⟩ := grd_some hF
   refine rn 1 rfl ?_
   refine W.o (e_iaddrA rfl (hs.g 1 rfl) rfl g_10) ?_
   obtain ⟨y_11, g_12⟩ := ix_in s g_10 rfl
   refine sl hs 1 rfl rfl (LR.comp (LR.whole _ _) (lrF_set (cI_len .u64) g_12 (IntKind.wrap .u64 (v_7 + (shlI .u64 1 (Int.tmod c 64)))))) ((cI_len .u64) _) rfl ((cI_len .u64) _) ((cI_one .u64) _) rfl fun st hs => ?_
   refine rn 0 rfl ?_
   refine W.o (lN (s := c24 (aset s (IntKind.wrap .u8 (Int.tdiv c 64)) (IntKind.wrap .u64 (v_7 + (shlI .u64 1 (Int.tmod c 64)))))) rfl (hs.g 1 rfl) rfl rfl) ?_
   refine sr hs 0 rfl rfl rfl (cs' := c24 (aset s (IntKind.wrap .u8 (Int.tdiv c 64)) (IntKind.wrap .u64 (v_7 + (shlI .u64 1 (Int.tmod c 64)))))) rfl rfl fun st hs => ?_
   refine rn 0 rfl ?_
   cases hF
   exact rD (rl_cellN rfl (hs.g 0 rfl) (LR.whole _ _) (c24_len _) rl0) rfl
 · refine rn 0 rfl ?_
   refine W.o (lN (s := c24 s) rfl (hs.g 1 rfl) rfl rfl) ?_
   refine sr hs 0 rfl rfl rfl (cs' := c24 s) rfl rfl fun st hs => ?_
   refine rn 0 rfl ?_
   cases hF
   exact rD (rl_cellN rfl (hs.g 0 rfl) (LR.whole _ _) (c24_len _) rl0) rfl
/-! ### 12: paddock/sets.Of -/
def C12_10 : ACode := .s (.ops [q 9 (.binI .lss 8 7)]) (.s (.cond 9 .skip (.exit 0)) (.s (.block 1 (.s (.ops [q 10 (.iaddrL 1 6 8), q 11 (.load1 10), q 5 (.mv 11)]) (.ops [q 12 (.loadN 4 3), q 13 (.mv 5), qc 14 36 [12, 13], q0 (.store 4 3 14)]))) (.ops [q 15 (.binI .add 8 (ki 1)), q 8 (.mv 15)])))
def C12_22 : ACode := .s (.ops [q 16 (.loadN 4 3), q0 (.store 4 2 16)]) .ret
def C12_1 : ACode := .s (.ops [q 2 (.alloc [(.int .u64 0), (.int .u64 0), (.int .u64 0), (.int .u64 0)])]) (.s (.ops [q 3 (.alloc [(.int .u64 0), (.int .u64 0), (.int .u64 0), (.int .u64 0)])]) (.s (.s (.ops [q 6 (.mv 0), q 7 (.len 6), q 8 (.mv (ki 0))]) (.block 0 (.loop C12_10))) C12_22))
def R12 : List RA := [(.cellN 2 4)]
theorem k12 : compF Try.prog (muL []) 12 = some ⟨17, C12_1, R12⟩ := by kernel_rfl
noncomputable abbrev X12 (r : Arr 4 Int) : Cx := cD Try.prog noG 17 R12 (v24 r)
inductive St12 where
 | p1 (t6_ : Sl Int) (t7_ : Int) (t8_ : Int) (t2_ : Arr 4 Int) (s : Arr 4 Int)
noncomputable def G12 : St12 → Option (Arr 4 Int)
 | .p1 t6_ t7_ t8_ t2_ s =>
  (if (decide (t8_ < t7_)) = true then
   (ix (ls t6_) t8_ >>= fun v_4 =>
    (F36 s v_4 >>= fun r_6 =>
     (G12 (.p1 t6_ t7_ (IntKind.wrap .i64 (t8_ + 1)) t2_ r_6))))
  else
   (some s))
 partial_fixpoint
def M12 (x : St12) (r : Arr 4 Int) : Prop := match x with
 | .p1 t6_ t7_ t8_ t2_ s => ∀ (tm : Fr) (st : Store) (io0 : Nat) (io1 : Nat), Frm tm [(2, .ptr io0 0), (3, .ptr io1 0), (6, slV 1 (AV.int .u8) t6_), (7, AV.int .i64 t7_), (8, AV.int .i64 t8_)] → SH st [pt io0 (.cells (c24 t2_)), pt io1 (.cells (c24 s))] → W (X12 r) [.lp C12_10, .blk 0, .code C12_22] tm st
theorem w12 : ∀ (x : St12) (r : Arr 4 Int), G12 x = some r → M12 x r := by
 refine G12.partial_correctness M12 ?_
 intro g ih x r hF
 cases x with
 | p1 t6_ t7_ t8_ t2_ s =>
  dsimp only at hF
  intro tm st io0 io1 hf hs
  refine en hf ?_
  refine lp ?_
  refine rn 1 rfl ?_
  refine ci hF rfl (fun c_3 hF => ?_) (fun c_3 hF => ?_)
  · obtain ⟨v_4, g_5, hF⟩ := bind_some hF
    refine rn 0 rfl ?_
    refine W.o (e_iaddrL (rd_V rfl) rfl g_5) ?_
    refine W.o (l1D rfl rfl) ?_
    refine rn 1 rfl ?_
    refine W.o (lN (s := c24 s) rfl (hs.g 1 rfl) rfl rfl) ?_
    obtain ⟨r_6, g_7, hF⟩ := bind_some hF
    refine rn 1 rfl ?_
    refine df (d36 s v_4 _ g_7) rfl ?_
    refine sr hs 1 rfl rfl rfl (cs' := c24 r_6) rfl rfl fun st hs => ?_
    refine rn 2 rfl ?_
    exact ih (.p1 t6_ t7_ (IntKind.wrap .i64 (t8_ + 1)) t2_ r_6) _ hF _ _ io0 io1 ⟨rfl, rfl, rfl, rfl, rfl, trivial⟩ hs
  · refine rn 0 rfl ?_
    refine W.o (lN (s := c24 s) rfl (hs.g 1 rfl) rfl rfl) ?_
    refine sr hs 0 rfl rfl rfl (cs' := c24 s) rfl rfl fun st hs => ?_
    refine rn 0 rfl ?_
    cases hF
    exact rD (rl_cellN rfl (hs.g 0 rfl) (LR.whole _ _) (c24_len _) rl0) rfl
noncomputable def F12 (b : Sl Int) : Option (Arr 4 Int) :=
 (G12 (.p1 b ((ls b).length : Int) 0 (Arr.rep 4 0) (Arr.rep 4 0)))
theorem d12 (b : Sl Int) (r : Arr 4 Int) (hF : F12 b = some r) : DFun Try.prog noG 12 [slV 1 (AV.int .u8) b] (v24 r) := by
 unfold F12 at hF
 refine bD k12 rfl ?_
 have hs : SH [] [] := SH.nil
 generalize ([] : Store) = st at hs ⊢
 refine rn 0 rfl ?_
 refine al hs (cs := c24 (Arr.rep 4 0)) rfl fun st b_1 hs => ?_
 refine rn 0 rfl ?_
 refine al hs (cs := c24 (Arr.rep 4 0)) rfl fun st b_2 hs => ?_
 refine rn 1 rfl ?_
 refine W.o (e_len (rd_V rfl)) ?_
 refine rn 1 rfl ?_
 exact w12 (.p1 b ((ls b).length : Int) 0 (Arr.rep 4 0) (Arr.rep 4 0)) _ hF _ _ b_1 b_2 ⟨rfl, rfl, rfl, rfl, rfl, trivial⟩ (hs.p 2 [1, 0] rfl)
/-! ### 13: paddock/paddockref07.Of -/
def C13_10 : ACode := .s (.ops [q 9 (.binI .lss 8 7)]) (.s (.cond 9 .skip (.exit 0)) (.s (.block 1 (.s (.ops [q 10 (.iaddrL 1 6 8), q 11 (.load1 10), q 5 (.mv 11)]) (.ops [q 12 (.loadN 4 3), q 13 (.mv 5), qc 14 35 [12, 13], q0 (.store 4 3 14)]))) (.ops [q 15 (.binI .add 8 (ki 1)), q 8 (.mv 15)])))
def C13_22 : ACode := .s (.ops [q 16 (.loadN 4 3), q0 (.store 4 2 16)]) .ret
def C13_1 : ACode := .s (.ops [q 2 (.alloc [(.int .u64 0), (.int .u64 0), (.int .u64 0), (.int .u64 0)])]) (.s (.ops [q 3 (.alloc [(.int .u64 0), (.int .u64 0), (.int .u64 0), (.int .u64 0)])]) (.s (.s (.ops [q 6 (.mv 0), q 7 (.len 6), q 8 (.mv (ki 0))]) (.block 0 (.loop C13_10))) C13_22))
def R13 : List RA := [(.cellN 2 4)]
theorem k13 : compF Try.prog (muL []) 13 = some ⟨17, C13_1, R13⟩ := by kernel_rfl
noncomputable abbrev X13 (r : Arr 4 Int) : Cx := cD Try.prog noG 17 R13 (v24 r)
inductive St13 where
 | p1 (t6_ : Sl Int) (t7_ : Int) (t8_ : Int) (t2_ : Arr 4 Int) (s : Arr 4 Int)
noncomputable def G13 : St13 → Option (Arr 4 Int)
 | .p1 t6_ t7_ t8_ t2_ s =>
  (if (decide (t8_ < t7_)) = true then
   (ix (ls t6_) t8_ >>= fun v_4 =>
    (F35 s v_4 >>= fun r_6 =>
     (G13 (.p1 t6_ t7_ (IntKind.wrap .i64 (t8_ + 1)) t2_ r_6))))
  else
   (some s))
 partial_fixpoint
def M13 (x : St13) (r : Arr 4 Int) : Prop := match x with
 | .p1 t6_ t7_ t8_ t2_ s => ∀ (tm : Fr) (st : Store) (io0 : Nat) (io1 : Nat), Frm tm [(2, .ptr io0 0), (3, .ptr io1 0), (6, slV 1 (AV.int .u8) t6_), (7, AV.int .i64 t7_), (8, AV.int .i64 t8_)] → SH st [pt io0 (.cells (c24 t2_)), pt io1 (.cells (c24 s))] → W (X13 r) [.lp C13_10, .blk 0, .code C13_22] tm st
theorem w13 : ∀ (x : St13) (r : Arr 4 Int), G13 x = some r → M13 x r := by
 refine G13.partial_correctness M13 ?_
 intro g ih x r hF
 cases x with
 | p1 t6_ t7_ t8_ t2_ s =>
  dsimp only at hF
  intro tm st io0 io1 hf hs
  refine en hf ?_
  refine lp ?_
  refine rn 1 rfl ?_
  refine ci hF rfl (fun c_3 hF => ?_) (fun c_3 hF => ?_)
  · obtain ⟨v_4, g_5, hF⟩ := bind_some hF
    refine rn 0 rfl ?_
    refine W.o (e_iaddrL (rd_V rfl) rfl g_5) ?_
    refine W.o (l1D rfl rfl) ?_
    refine rn 1 rfl ?_
    refine W.o (lN (s := c24 s) rfl (hs.g 1 rfl) rfl rfl) ?_
    obtain ⟨r_6, g_7, hF⟩ := bind_some hF
    refine rn 1 rfl ?_
    refine df (d35 s v_4 _ g_7) rfl ?_
    refine sr hs 1 rfl rfl rfl (cs' := c24 r_6) rfl rfl fun st hs => ?_
    refine rn 2 rfl ?_
    exact ih (.p1 t6_ t7_ (IntKind.wrap .i64 (t8_ + 1)) t2_ r_6) _ hF _ _ io0 io1 ⟨rfl, rfl, rfl, rfl, rfl, trivial⟩ hs
  · refine rn 0 rfl ?_
    refine W.o (lN (s := c24 s) rfl (hs.g 1 rfl) rfl rfl) ?_
    refine sr hs 0 rfl rfl rfl (cs' := c24 s) rfl rfl fun st hs => ?_
    refine rn 0 rfl ?_
    cases hF
    exact rD (rl_cellN rfl (hs.g 0 rfl) (LR.whole _ _) (c24_len _) rl0) rfl
noncomputable def F13 (b : Sl Int) : Option (Arr 4 Int) :=
 (G13 (.p1 b ((ls b).length : Int) 0 (Arr.rep 4 0) (Arr.rep 4 0)))
theorem d13 (b : Sl Int) (r : Arr 4 Int) (hF : F13 b = some r) : DFun Try.prog noG 13 [slV 1 (AV.int .u8) b] (v24 r) := by
 unfold F13 at hF
 refine bD k13 rfl ?_
 have hs : SH [] [] := SH.nil
 generalize ([] : Store) = st at hs ⊢
 refine rn 0 rfl ?_
 refine al hs (cs := c24 (Arr.rep 4 0)) rfl fun st b_1 hs => ?_
 refine rn 0 rfl ?_
 refine al hs (cs := c24 (Arr.rep 4 0)) rfl fun st b_2 hs => ?_
 refine rn 1 rfl ?_
 refine W.o (e_len (rd_V rfl)) ?_
 refine rn 1 rfl ?_
 exact w13 (.p1 b ((ls b).length : Int) 0 (Arr.rep 4 0) (Arr.rep 4 0)) _ hF _ _ b_1 b_2 ⟨rfl, rfl, rfl, rfl, rfl, trivial⟩ (hs.p 2 [1, 0] rfl)
/-! ### 14: paddock/paddocklaw07.same -/
def C14_26 : ACode := .s (.draw [] 0 0 [q 16 (.mv 0), q 17 (.mv 5), q 18 (.iaddrL 1 16 17), q 19 (.load1 18), q 20 (.mv 1), q 21 (.mv 5), q 22 (.iaddrL 1 20 21), q 23 (.load1 22), q 24 (.binI .neq 19 23)] []) (.cond 24 (.s (.ops [q 4 (.mv (.c (.bool false)))]) .ret) .skip)
def C14_16 : ACode := .s (.ops [q 14 (.binI .lss 13 12)]) (.s (.cond 14 .skip (.exit 0)) (.s (.block 1 (.s (.ops [q 15 (.mv 13), q 5 (.mv 15)]) C14_26)) (.ops [q 25 (.binI .add 13 (ki 1)), q 13 (.mv 25)])))
def C14_34 : ACode := .s (.ops [q 4 (.mv (.c (.bool true)))]) .ret
def C14_1 : ACode := .s (.ops [q 4 (.mv (.c (.bool false)))]) (.s (.s (.ops [q 6 (.mv 0), q 7 (.len 6), q 8 (.mv 1), q 9 (.len 8), q 10 (.binI .neq 7 9)]) (.cond 10 (.s (.ops [q 4 (.mv (.c (.bool false)))]) .ret) .skip)) (.s (.s (.ops [q 11 (.mv 0), q 12 (.len 11), q 13 (.mv (ki 0))]) (.block 0 (.loop C14_16))) C14_34))
def R14 : List RA := [(.tmp 4)]
theorem k14 : compF Try.prog (muL []) 14 = some ⟨26, C14_1, R14⟩ := by kernel_rfl
noncomputable abbrev X14 (r : Bool) : Cx := cD Try.prog noG 26 R14 (AV.bool r)
inductive St14 where
 | p1 (a : Sl Int) (b : Sl Int) (t12_ : Int) (t13_ : Int)
noncomputable def G14 : St14 → Option Bool
 | .p1 a b t12_ t13_ =>
  (if (decide (t13_ < t12_)) = true then
   (ix (ls a) t13_ >>= fun v_3 =>
    (ix (ls b) t13_ >>= fun v_5 =>
     (if (v_3 != v_5) = true then
      (some false)
     else
      (G14 (.p1 a b t12_ (IntKind.wrap .i64 (t13_ + 1)))))))
  else
   (some true))
 partial_fixpoint
def M14 (x : St14) (r : Bool) : Prop := match x with
 | .p1 a b t12_ t13_ => ∀ (tm : Fr) (st : Store), Frm tm [(0, slV 1 (AV.int .u8) a), (1, slV 1 (AV.int .u8) b), (12, AV.int .i64 t12_), (13, AV.int .i64 t13_)] → SH st [] → W (X14 r) [.lp C14_16, .blk 0, .code C14_34] tm st
theorem w14 : ∀ (x : St14) (r : Bool), G14 x = some r → M14 x r := by
 refine G14.partial_correctness M14 ?_
 intro g ih x r hF
 cases x with
 | p1 a b t12_ t13_ =>
  dsimp only at hF
  intro tm st hf hs
  refine en hf ?_
  refine lp ?_
  refine rn 1 rfl ?_
  refine ci hF rfl (fun c_2 hF => ?_) (fun c_2 hF => ?_)
  · refine rn 2 rfl ?_
    have h0 := hs
    refine dr0 ?_
    obtain ⟨v_3, g_4, hF⟩ := bind_some hF
    refine dn 2 rfl ?_
    refine de rfl (e_iaddrL (rd_V rfl) rfl g_4) ?_
    refine de rfl (l1D rfl rfl) ?_
    obtain ⟨v_5, g_6, hF⟩ := bind_some hF
    refine dn 2 rfl ?_
    refine de rfl (e_iaddrL (rd_V rfl) rfl g_6) ?_
    refine de rfl (l1D rfl rfl) ?_
    refine dn 1 rfl ?_
    refine dz ?_
    refine rn 0 rfl ?_
    refine ci hF rfl (fun c_7 hF => ?_) (fun c_7 hF => ?_)
    · refine rn 1 rfl ?_
      cases hF
      exact rD (rlt rl0) rfl
    · refine rn 2 rfl ?_
      exact ih (.p1 a b t12_ (IntKind.wrap .i64 (t13_ + 1))) _ hF _ _ ⟨rfl, rfl, rfl, rfl, trivial⟩ hs
  · refine rn 1 rfl ?_
    cases hF
    exact rD (rlt rl0) rfl
noncomputable def F14 (a : Sl Int) (b : Sl Int) : Option Bool :=
 (if (((ls a).length : Int) != ((ls b).length : Int)) = true then
  (some false)
 else
  (G14 (.p1 a b ((ls a).length : Int) 0)))
theorem d14 (a : Sl Int) (b : Sl Int) (r : Bool) (hF : F14 a b = some r) : DFun Try.prog noG 14 [slV 1 (AV.int .u8) a, slV 1 (AV.int .u8) b] (AV.bool r) := by
 unfold F14 at hF
 refine bD k14 rfl ?_
 have hs : SH [] [] := SH.nil
 generalize ([] : Store) = st at hs ⊢
 refine rn 2 rfl ?_
 refine W.o (e_len (rd_V rfl)) ?_
 refine rn 1 rfl ?_
 refine W.o (e_len (rd_V rfl)) ?_
 refine rn 1 rfl ?_
 refine ci hF rfl (fun c_1 hF => ?_) (fun c_1 hF => ?_)
 · refine rn 1 rfl ?_
   cases hF
   exact rD (rlt rl0) rfl
 · refine rn 1 rfl ?_
   refine W.o (e_len (rd_V rfl)) ?_
   refine rn 1 rfl ?_
   exact w14 (.p1 a b ((ls a).length : Int) 0) _ hF _ _ ⟨rfl, rfl, rfl, rfl, trivial⟩ hs
/-! ### 15: paddock/sets.Bytes -/
def C15_20 : ACode := .s (.ops [q 8 (.loadN 4 1), q 9 (.mv 4), q 10 (.cvI .u8 9), qc 11 17 [8, 10]]) (.cond 11 (.ops [q 12 (.mv 3), q 13 (.mv 4), q 14 (.cvI .u8 13), q 15 (.bslice 1 1 false [(.int .u8 0)] [(0, (1, 14))] false), q 16 (.app 1 1 12 15), q 3 (.mv 16)]) .skip)
def C15_10 : ACode := .s (.ops [q 6 (.binI .lss 5 (ki 256))]) (.s (.cond 6 .skip (.exit 0)) (.s (.block 1 (.s (.ops [q 7 (.mv 5), q 4 (.mv 7)]) C15_20)) (.ops [q 17 (.binI .add 5 (ki 1)), q 5 (.mv 17)])))
def C15_26 : ACode := .s (.ops [q 18 (.mv 3), q 2 (.mv 18)]) .ret
def C15_1 : ACode := .s (.ops [q 1 (.box 4 0), q 2 (.mv (.c .nils))]) (.s (.ops [q 3 (.mv (.c .nils))]) (.s (.s (.ops [q 5 (.mv (ki 0))]) (.block 0 (.loop C15_10))) C15_26))
def R15 : List RA := [(.tmp 2)]
theorem k15 : compF Try.prog (muL []) 15 = some ⟨19, C15_1, R15⟩ := by kernel_rfl
noncomputable abbrev X15 (K : AV → Store → Prop) : Cx := cK Try.prog noG 19 R15 K
inductive St15 where
 | p1 (t5_ : Int) (s : Arr 4 Int) (out : Sl Int)
noncomputable def G15 : St15 → Option (Sl Int)
 | .p1 t5_ s out =>
  (if (decide (t5_ < 256)) = true then
   (F17 s (IntKind.wrap .u8 t5_) >>= fun r_4 =>
    (if r_4 = true then
     (if ((ls out).length + (ls (some ([IntKind.wrap .u8 t5_] : List Int))).length) * 1 ≤ 140737488355328 then
      (G15 (.p1 (IntKind.wrap .i64 (t5_ + 1)) s (sapp out (ls (some ([IntKind.wrap .u8 t5_] : List Int))))))
     else none)
    else
     (G15 (.p1 (IntKind.wrap .i64 (t5_ + 1)) s out))))
  else
   (some out))
 partial_fixpoint
def M15 (x : St15) (r : Sl Int) : Prop := match x with
 | .p1 t5_ s out => ∀ (K : AV → Store → Prop) (Ls : List Asn), (∀ st id, SH st (ownA id r :: Ls) → K (ownV 1 (AV.int .u8) r id) st) → ∀ (tm : Fr) (st : Store) (io0 : Nat) (io1 : Nat), Frm tm [(1, .ptr io0 0), (3, ownV 1 (AV.int .u8) out io1), (5, AV.int .i64 t5_)] → SH st (pt io0 (.cells (c24 s)) :: ownA io1 out :: Ls) → W (X15 K) [.lp C15_10, .blk 0, .code C15_26] tm st
theorem w15 : ∀ (x : St15) (r : Sl Int), G15 x = some r → M15 x r := by
 refine G15.partial_correctness M15 ?_
 intro g ih x r hF
 cases x with
 | p1 t5_ s out =>
  dsimp only at hF
  intro K Ls hK tm st io0 io1 hf hs
  refine en hf ?_
  refine lp ?_
  refine rn 1 rfl ?_
  refine ci hF rfl (fun c_3 hF => ?_) (fun c_3 hF => ?_)
  · refine rn 2 rfl ?_
    refine W.o (lN (s := c24 s) rfl (hs.g 0 rfl) rfl rfl) ?_
    obtain ⟨r_4, g_5, hF⟩ := bind_some hF
    refine rn 2 rfl ?_
    refine df (d17 s (IntKind.wrap .u8 t5_) _ g_5) rfl ?_
    refine rn 0 rfl ?_
    refine ci hF rfl (fun c_6 hF => ?_) (fun c_6 hF => ?_)
    · refine rn 3 rfl ?_
      refine bs (f := AV.int .u8) ([IntKind.wrap .u8 t5_] : List Int) hs rfl rfl rfl rfl fun st b_7 hs => ?_
      obtain ⟨g_8, hF⟩ := grd_some hF
      refine ap (ys := ls (some ([IntKind.wrap .u8 t5_] : List Int))) hs 2 rfl rfl (ae_rd (rd_W (o := (some ([IntKind.wrap .u8 t5_] : List Int))) (id := b_7) rfl)) g_8 (fun _ => rfl) fun st b_9 hs => ?_
      refine rn 3 rfl ?_
      exact ih (.p1 (IntKind.wrap .i64 (t5_ + 1)) s (sapp out (ls (some ([IntKind.wrap .u8 t5_] : List Int))))) _ hF K Ls hK _ _ io0 b_9 ⟨rfl, rfl, rfl, trivial⟩ (hs.p 3 [1, 1] rfl)
    · refine rn 2 rfl ?_
      exact ih (.p1 (IntKind.wrap .i64 (t5_ + 1)) s out) _ hF K Ls hK _ _ io0 io1 ⟨rfl, rfl, rfl, trivial⟩ hs
  · refine rn 2 rfl ?_
    cases hF
    exact rK (rlt rl0) (hK _ _ (hs.p 2 [1] rfl)) rfl
noncomputable def F15 (s : Arr 4 Int) : Option (Sl Int) :=
 (G15 (.p1 0 s none))
theorem d15 (s : Arr 4 Int) (r : Sl Int) (hF : F15 s = some r) : ∀ (K : AV → Store → Prop) (Ls : List Asn) (st : Store), SH st Ls → (∀ st id, SH st (ownA id r :: Ls) → K (ownV 1 (AV.int .u8) r id) st) → XCall Try.prog noG 15 [v24 s] st K := by
 unfold F15 at hF
 intro K Ls st hs hK
 refine bK k15 rfl ?_
 refine rn 0 rfl ?_
 refine bx hs (cs := c24 s) rfl rfl fun st b_1 hs => ?_
 refine rn 3 rfl ?_
 have hs := hs.ownNil Int
 exact w15 (.p1 0 s none) _ hF K Ls hK _ _ b_1 0 ⟨rfl, rfl, rfl, trivial⟩ (hs.p 2 [1, 0] rfl)
end Go.Proofs.Ytfjdegohjnejkaa
