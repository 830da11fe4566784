/-
  Functions of the program's as plain functions.
-/
import Derived.Test.YtfjdegohjnejkaaD1
set_option linter.unusedVariables false
set_option maxRecDepth 4000
set_option maxHeartbeats 4000000
namespace Go.Proofs.Ytfjdegohjnejkaa
open Go AW
attribute [local irreducible] W WD SH XS XLoop DFun XCall
/-! ### 28: paddock/paddockref07.Or -/
def C28_8 : ACode := .s (.ops [q 11 (.binI .lss 10 9)]) (.s (.cond 11 .skip (.exit 0)) (.s (.block 1 (.s (.ops [q 12 (.iaddrL 1 8 10), q 13 (.load1 12), q 6 (.mv 13)]) (.ops [q 14 (.loadN 4 2), q 15 (.mv 6), qc 16 35 [14, 15], q0 (.store 4 2 16)]))) (.ops [q 17 (.binI .add 10 (ki 1)), q 10 (.mv 17)])))
def C28_20 : ACode := .s (.ops [q 18 (.loadN 4 2), q0 (.store 4 4 18)]) .ret
def C28_1 : ACode := .s (.ops [q 2 (.box 4 0), q 3 (.box 4 1), q 4 (.alloc [(.int .u64 0), (.int .u64 0), (.int .u64 0), (.int .u64 0)])]) (.s (.s (.ops [q 7 (.loadN 4 3), qc 8 16 [7], q 9 (.len 8), q 10 (.mv (ki 0))]) (.block 0 (.loop C28_8))) C28_20)
def R28 : List RA := [(.cellN 4 4)]
theorem k28 : compF Try.prog (muL []) 28 = some ⟨19, C28_1, R28⟩ := by kernel_rfl
noncomputable abbrev X28 (r : Arr 4 Int) : Cx := cD Try.prog noG 19 R28 (v24 r)
inductive St28 where
 | p1 (t8_ : Sl Int) (t9_ : Int) (t10_ : Int) (a : Arr 4 Int) (t4_ : Arr 4 Int)
noncomputable def G28 : St28 → Option (Arr 4 Int)
 | .p1 t8_ t9_ t10_ a t4_ =>
  (if (decide (t10_ < t9_)) = true then
   (ix (ls t8_) t10_ >>= fun v_7 =>
    (F35 a v_7 >>= fun r_9 =>
     (G28 (.p1 t8_ t9_ (IntKind.wrap .i64 (t10_ + 1)) r_9 t4_))))
  else
   (some a))
 partial_fixpoint
def M28 (x : St28) (r : Arr 4 Int) : Prop := match x with
 | .p1 t8_ t9_ t10_ a t4_ => ∀ (tm : Fr) (st : Store) (io0 : Nat) (io1 : Nat), Frm tm [(2, .ptr io0 0), (4, .ptr io1 0), (8, slV 1 (AV.int .u8) t8_), (9, AV.int .i64 t9_), (10, AV.int .i64 t10_)] → SH st [pt io0 (.cells (c24 a)), pt io1 (.cells (c24 t4_))] → W (X28 r) [.lp C28_8, .blk 0, .code C28_20] tm st
theorem w28 : ∀ (x : St28) (r : Arr 4 Int), G28 x = some r → M28 x r := by
 refine G28.partial_correctness M28 ?_
 intro g ih x r hF
 cases x with
 | p1 t8_ t9_ t10_ a t4_ =>
  dsimp only at hF
  intro tm st io0 io1 hf hs
  refine en hf ?_
  refine lp ?_
  refine rn 1 rfl ?_
  refine ci hF rfl (fun c_6 hF => ?_) (fun c_6 hF => ?_)
  · obtain ⟨v_7, g_8, hF⟩ := bind_some hF
    refine rn 0 rfl ?_
    refine W.o (e_iaddrL (rd_V rfl) rfl g_8) ?_
    refine W.o (l1D rfl rfl) ?_
    refine rn 1 rfl ?_
    refine W.o (lN (s := c24 a) rfl (hs.g 0 rfl) rfl rfl) ?_
    obtain ⟨r_9, g_10, hF⟩ := bind_some hF
    refine rn 1 rfl ?_
    refine df (d35 a v_7 _ g_10) rfl ?_
    refine sr hs 0 rfl rfl rfl (cs' := c24 r_9) rfl rfl fun st hs => ?_
    refine rn 2 rfl ?_
    exact ih (.p1 t8_ t9_ (IntKind.wrap .i64 (t10_ + 1)) r_9 t4_) _ hF _ _ io0 io1 ⟨rfl, rfl, rfl, rfl, rfl, trivial⟩ hs
  · refine rn 0 rfl ?_
    refine W.o (lN (s := c24 a) rfl (hs.g 0 rfl) rfl rfl) ?_
    refine sr hs 1 rfl rfl rfl (cs' := c24 a) rfl rfl fun st hs => ?_
    refine rn 0 rfl ?_
    cases hF
    exact rD (rl_cellN rfl (hs.g 1 rfl) (LR.whole _ _) (c24_len _) rl0) rfl
noncomputable def F28 (a : Arr 4 Int) (b : Arr 4 Int) : Option (Arr 4 Int) :=
 (F16 b >>= fun r_4 =>
  (G28 (.p1 r_4 ((ls r_4).length : Int) 0 a (Arr.rep 4 0))))
theorem d28 (a : Arr 4 Int) (b : Arr 4 Int) (r : Arr 4 Int) (hF : F28 a b = some r) : DFun Try.prog noG 28 [v24 a, v24 b] (v24 r) := by
 unfold F28 at hF
 refine bD k28 rfl ?_
 have hs : SH [] [] := SH.nil
 generalize ([] : Store) = st at hs ⊢
 refine rn 0 rfl ?_
 refine bx hs (cs := c24 a) rfl rfl fun st b_1 hs => ?_
 refine bx hs (cs := c24 b) rfl rfl fun st b_2 hs => ?_
 refine al hs (cs := c24 (Arr.rep 4 0)) rfl fun st b_3 hs => ?_
 refine rn 0 rfl ?_
 refine W.o (lN (s := c24 b) rfl (hs.g 1 rfl) rfl rfl) ?_
 obtain ⟨r_4, g_5, hF⟩ := bind_some hF
 refine df (d16 b _ g_5) rfl ?_
 refine W.o (e_len (rd_V rfl)) ?_
 refine rn 1 rfl ?_
 exact w28 (.p1 r_4 ((ls r_4).length : Int) 0 a (Arr.rep 4 0)) _ hF _ _ b_1 b_3 ⟨rfl, rfl, rfl, rfl, rfl, trivial⟩ (hs.p 3 [2, 0] rfl)
/-! ### 29: paddock/sets.Not -/
def C29_8 : ACode := .s (.ops [q 5 (.binI .lss 4 (ki 4))]) (.s (.cond 5 .skip (.exit 0)) (.s (.block 1 (.s (.ops [q 6 (.mv 4), q 3 (.mv 6)]) (.ops [q 7 (.mv 3), q 8 (.mv 3), q 9 (.iaddrA 4 1 1 8), q 10 (.load1 9), q 11 (.un .xor 10), q 12 (.iaddrA 4 1 1 7), q0 (.store 1 12 11)]))) (.ops [q 13 (.binI .add 4 (ki 1)), q 4 (.mv 13)])))
def C29_20 : ACode := .s (.ops [q 14 (.loadN 4 1), q0 (.store 4 2 14)]) .ret
def C29_1 : ACode := .s (.ops [q 1 (.box 4 0), q 2 (.alloc [(.int .u64 0), (.int .u64 0), (.int .u64 0), (.int .u64 0)])]) (.s (.s (.ops [q 4 (.mv (ki 0))]) (.block 0 (.loop C29_8))) C29_20)
def R29 : List RA := [(.cellN 2 4)]
theorem k29 : compF Try.prog (muL []) 29 = some ⟨15, C29_1, R29⟩ := by kernel_rfl
noncomputable abbrev X29 (r : Arr 4 Int) : Cx := cD Try.prog noG 15 R29 (v24 r)
inductive St29 where
 | p1 (t4_ : Int) (s : Arr 4 Int) (t2_ : Arr 4 Int)
noncomputable def G29 : St29 → Option (Arr 4 Int)
 | .p1 t4_ s t2_ =>
  (if (decide (t4_ < 4)) = true then
   (if 0 ≤ t4_ ∧ t4_ < (4 : Int) then
    (ix s.l t4_ >>= fun v_5 =>
     (if 0 ≤ t4_ ∧ t4_ < (4 : Int) then
      (G29 (.p1 (IntKind.wrap .i64 (t4_ + 1)) (aset s t4_ (notI .u64 v_5)) t2_))
     else none))
   else none)
  else
   (some s))
 partial_fixpoint
def M29 (x : St29) (r : Arr 4 Int) : Prop := match x with
 | .p1 t4_ s t2_ => ∀ (tm : Fr) (st : Store) (io0 : Nat) (io1 : Nat), Frm tm [(1, .ptr io0 0), (2, .ptr io1 0), (4, AV.int .i64 t4_)] → SH st [pt io0 (.cells (c24 s)), pt io1 (.cells (c24 t2_))] → W (X29 r) [.lp C29_8, .blk 0, .code C29_20] tm st
theorem w29 : ∀ (x : St29) (r : Arr 4 Int), G29 x = some r → M29 x r := by
 refine G29.partial_correctness M29 ?_
 intro g ih x r hF
 cases x with
 | p1 t4_ s t2_ =>
  dsimp only at hF
  intro tm st io0 io1 hf hs
  refine en hf ?_
  refine lp ?_
  refine rn 1 rfl ?_
  refine ci hF rfl (fun c_3 hF => ?_) (fun c_3 hF => ?_)
  · obtain ⟨g_4, hF⟩ := grd_some hF
    refine rn 4 rfl ?_
    refine W.o (e_iaddrA rfl (hs.g 0 rfl) rfl g_4) ?_
    obtain ⟨v_5, g_6, hF⟩ := bind_some hF
    refine W.o (e_load1 rfl (hs.g 0 rfl) (LR.comp (LR.whole _ _) (lrF_get (cI_len .u64) g_6))) ?_
    obtain ⟨g_7, hF⟩ := grd_some hF
    refine rn 1 rfl ?_
    refine W.o (e_iaddrA rfl (hs.g 0 rfl) rfl g_7) ?_
    obtain ⟨y_8, g_9⟩ := ix_in s g_7 rfl
    refine sl hs 0 rfl rfl (LR.comp (LR.whole _ _) (lrF_set (cI_len .u64) g_9 (notI .u64 v_5))) ((cI_len .u64) _) rfl ((cI_len .u64) _) ((cI_one .u64) _) rfl fun st hs => ?_
    refine rn 2 rfl ?_
    exact ih (.p1 (IntKind.wrap .i64 (t4_ + 1)) (aset s t4_ (notI .u64 v_5)) t2_) _ hF _ _ io0 io1 ⟨rfl, rfl, rfl, trivial⟩ hs
  · refine rn 0 rfl ?_
    refine W.o (lN (s := c24 s) rfl (hs.g 0 rfl) rfl rfl) ?_
    refine sr hs 1 rfl rfl rfl (cs' := c24 s) rfl rfl fun st hs => ?_
    refine rn 0 rfl ?_
    cases hF
    exact rD (rl_cellN rfl (hs.g 1 rfl) (LR.whole _ _) (c24_len _) rl0) rfl
noncomputable def F29 (s : Arr 4 Int) : Option (Arr 4 Int) :=
 (G29 (.p1 0 s (Arr.rep 4 0)))
theorem d29 (s : Arr 4 Int) (r : Arr 4 Int) (hF : F29 s = some r) : DFun Try.prog noG 29 [v24 s] (v24 r) := by
 unfold F29 at hF
 refine bD k29 rfl ?_
 have hs : SH [] [] := SH.nil
 generalize ([] : Store) = st at hs ⊢
 refine rn 0 rfl ?_
 refine bx hs (cs := c24 s) rfl rfl fun st b_1 hs => ?_
 refine al hs (cs := c24 (Arr.rep 4 0)) rfl fun st b_2 hs => ?_
 refine rn 1 rfl ?_
 exact w29 (.p1 0 s (Arr.rep 4 0)) _ hF _ _ b_1 b_2 ⟨rfl, rfl, rfl, trivial⟩ (hs.p 2 [1, 0] rfl)
/-! ### 30: paddock/paddockref07.Not -/
def C30_10 : ACode := .s (.s (.ops [q 5 (.mv 4), q 6 (.binI .lss 5 (ki 256))]) (.cond 6 .skip (.exit 0))) (.s (.block 1 (.s (.ops [q 9 (.loadN 4 1), q 10 (.mv 4), q 11 (.cvI .u8 10), qc 12 18 [9, 11], q 13 (.un .not 12)]) (.cond 13 (.ops [q 14 (.loadN 4 3), q 15 (.mv 4), q 16 (.cvI .u8 15), qc 17 35 [14, 16], q0 (.store 4 3 17)]) .skip))) (.ops [q 7 (.mv 4), q 8 (.binI .add 7 (ki 1)), q 4 (.mv 8)]))
def C30_24 : ACode := .s (.ops [q 18 (.loadN 4 3), q0 (.store 4 2 18)]) .ret
def C30_1 : ACode := .s (.ops [q 1 (.box 4 0), q 2 (.alloc [(.int .u64 0), (.int .u64 0), (.int .u64 0), (.int .u64 0)])]) (.s (.ops [q 3 (.alloc [(.int .u64 0), (.int .u64 0), (.int .u64 0), (.int .u64 0)])]) (.s (.s (.ops [q 4 (.mv (ki 0))]) (.block 0 (.loop C30_10))) C30_24))
def R30 : List RA := [(.cellN 2 4)]
theorem k30 : compF Try.prog (muL []) 30 = some ⟨19, C30_1, R30⟩ := by kernel_rfl
noncomputable abbrev X30 (r : Arr 4 Int) : Cx := cD Try.prog noG 19 R30 (v24 r)
inductive St30 where
 | p1 (c : Int) (a : Arr 4 Int) (t2_ : Arr 4 Int) (s : Arr 4 Int)
noncomputable def G30 : St30 → Option (Arr 4 Int)
 | .p1 c a t2_ s =>
  (if (decide (c < 256)) = true then
   (F18 a (IntKind.wrap .u8 c) >>= fun r_5 =>
    (if (!r_5) = true then
     (F35 s (IntKind.wrap .u8 c) >>= fun r_8 =>
      (G30 (.p1 (IntKind.wrap .i64 (c + 1)) a t2_ r_8)))
    else
     (G30 (.p1 (IntKind.wrap .i64 (c + 1)) a t2_ s))))
  else
   (some s))
 partial_fixpoint
def M30 (x : St30) (r : Arr 4 Int) : Prop := match x with
 | .p1 c a t2_ s => ∀ (tm : Fr) (st : Store) (io0 : Nat) (io1 : Nat) (io2 : Nat), Frm tm [(1, .ptr io0 0), (2, .ptr io1 0), (3, .ptr io2 0), (4, AV.int .i64 c)] → SH st [pt io0 (.cells (c24 a)), pt io1 (.cells (c24 t2_)), pt io2 (.cells (c24 s))] → W (X30 r) [.lp C30_10, .blk 0, .code C30_24] tm st
theorem w30 : ∀ (x : St30) (r : Arr 4 Int), G30 x = some r → M30 x r := by
 refine G30.partial_correctness M30 ?_
 intro g ih x r hF
 cases x with
 | p1 c a t2_ s =>
  dsimp only at hF
  intro tm st io0 io1 io2 hf hs
  refine en hf ?_
  refine lp ?_
  refine rn 2 rfl ?_
  refine ci hF rfl (fun c_4 hF => ?_) (fun c_4 hF => ?_)
  · refine rn 0 rfl ?_
    refine W.o (lN (s := c24 a) rfl (hs.g 0 rfl) rfl rfl) ?_
    obtain ⟨r_5, g_6, hF⟩ := bind_some hF
    refine rn 2 rfl ?_
    refine df (d18 a (IntKind.wrap .u8 c) _ g_6) rfl ?_
    refine rn 1 rfl ?_
    refine ci hF rfl (fun c_7 hF => ?_) (fun c_7 hF => ?_)
    · refine rn 0 rfl ?_
      refine W.o (lN (s := c24 s) rfl (hs.g 2 rfl) rfl rfl) ?_
      obtain ⟨r_8, g_9, hF⟩ := bind_some hF
      refine rn 2 rfl ?_
      refine df (d35 s (IntKind.wrap .u8 c) _ g_9) rfl ?_
      refine sr hs 2 rfl rfl rfl (cs' := c24 r_8) rfl rfl fun st hs => ?_
      refine rn 3 rfl ?_
      exact ih (.p1 (IntKind.wrap .i64 (c + 1)) a t2_ r_8) _ hF _ _ io0 io1 io2 ⟨rfl, rfl, rfl, rfl, trivial⟩ hs
    · refine rn 3 rfl ?_
      exact ih (.p1 (IntKind.wrap .i64 (c + 1)) a t2_ s) _ hF _ _ io0 io1 io2 ⟨rfl, rfl, rfl, rfl, trivial⟩ hs
  · refine rn 0 rfl ?_
    refine W.o (lN (s := c24 s) rfl (hs.g 2 rfl) rfl rfl) ?_
    refine sr hs 1 rfl rfl rfl (cs' := c24 s) rfl rfl fun st hs => ?_
    refine rn 0 rfl ?_
    cases hF
    exact rD (rl_cellN rfl (hs.g 1 rfl) (LR.whole _ _) (c24_len _) rl0) rfl
noncomputable def F30 (a : Arr 4 Int) : Option (Arr 4 Int) :=
 (G30 (.p1 0 a (Arr.rep 4 0) (Arr.rep 4 0)))
theorem d30 (a : Arr 4 Int) (r : Arr 4 Int) (hF : F30 a = some r) : DFun Try.prog noG 30 [v24 a] (v24 r) := by
 unfold F30 at hF
 refine bD k30 rfl ?_
 have hs : SH [] [] := SH.nil
 generalize ([] : Store) = st at hs ⊢
 refine rn 0 rfl ?_
 refine bx hs (cs := c24 a) rfl rfl fun st b_1 hs => ?_
 refine al hs (cs := c24 (Arr.rep 4 0)) rfl fun st b_2 hs => ?_
 refine rn 0 rfl ?_
 refine al hs (cs := c24 (Arr.rep 4 0)) rfl fun st b_3 hs => ?_
 refine rn 1 rfl ?_
 exact w30 (.p1 0 a (Arr.rep 4 0) (Arr.rep 4 0)) _ hF _ _ b_1 b_2 b_3 ⟨rfl, rfl, rfl, rfl, trivial⟩ (hs.p 3 [2, 1, 0] rfl)
/-! ### 31: paddock/sets.Fold -/
def C31_23 : ACode := .ops [q 21 (.loadN 4 3), q 22 (.mv 4), qc 23 36 [21, 22], q 24 (.mv 5), qc 25 36 [23, 24], q0 (.store 4 3 25)]
def C31_22 : ACode := .cond 20 C31_23 .skip
def C31_25 : ACode := .ops [q 9 (.mv 4), q 10 (.binI .add 9 (ku 1)), q 4 (.mv 10)]
def C31_10 : ACode := .s (.s (.ops [q 7 (.mv 4), q 8 (.binI .leq 7 (ku 122))]) (.cond 8 .skip (.exit 0))) (.s (.block 1 (.s (.ops [q 11 (.mv 4), q 12 (.binI .sub 11 (ku 32)), q 5 (.mv 12)]) (.s (.ops [q 13 (.loadN 4 1), q 14 (.mv 4), qc 15 17 [13, 14], q 16 (.mv 15), (q 17 (.loadN 4 1)).n 16, (q 18 (.mv 5)).n 16, (qc 19 17 [17, 18]).n 16, q 20 (.pick 16 (.c (.bool true)) 19)]) C31_22))) C31_25)
def C31_26 : ACode := .s (.ops [q 26 (.loadN 4 3), q0 (.store 4 2 26)]) .ret
def C31_1 : ACode := .s (.ops [q 1 (.box 4 0), q 2 (.alloc [(.int .u64 0), (.int .u64 0), (.int .u64 0), (.int .u64 0)])]) (.s (.ops [q 6 (.loadN 4 1), q 3 (.alloc [(.int .u64 0), (.int .u64 0), (.int .u64 0), (.int .u64 0)]), q0 (.store 4 3 6)]) (.s (.s (.ops [q 4 (.mv (ku 97))]) (.block 0 (.loop C31_10))) C31_26))
def R31 : List RA := [(.cellN 2 4)]
theorem k31 : compF Try.prog (muL []) 31 = some ⟨27, C31_1, R31⟩ := by kernel_rfl
noncomputable abbrev X31 (r : Arr 4 Int) : Cx := cD Try.prog noG 27 R31 (v24 r)
inductive St31 where
 | p1 (c : Int) (s : Arr 4 Int) (t2_ : Arr 4 Int) (out : Arr 4 Int)
 | p2 (c : Int) (upper : Int) (s : Arr 4 Int) (t2_ : Arr 4 Int) (out : Arr 4 Int)
noncomputable def G31 : St31 → Option (Arr 4 Int)
 | .p1 c s t2_ out =>
  (if (decide (c ≤ 122)) = true then
   (F17 s c >>= fun r_5 =>
    (if r_5 = true then
     (G31 (.p2 c (IntKind.wrap .u8 (c - 32)) s t2_ out))
    else
     (F17 s (IntKind.wrap .u8 (c - 32)) >>= fun r_8 =>
      (if r_8 = true then
       (G31 (.p2 c (IntKind.wrap .u8 (c - 32)) s t2_ out))
      else
       (G31 (.p1 (IntKind.wrap .u8 (c + 1)) s t2_ out))))))
  else
   (some out))
 | .p2 c upper s t2_ out =>
  (F36 out c >>= fun r_11 =>
   (F36 r_11 upper >>= fun r_13 =>
    (G31 (.p1 (IntKind.wrap .u8 (c + 1)) s t2_ r_13))))
 partial_fixpoint
def M31 (x : St31) (r : Arr 4 Int) : Prop := match x with
 | .p1 c s t2_ out => ∀ (tm : Fr) (st : Store) (io0 : Nat) (io1 : Nat) (io2 : Nat), Frm tm [(1, .ptr io0 0), (2, .ptr io1 0), (3, .ptr io2 0), (4, AV.int .u8 c)] → SH st [pt io0 (.cells (c24 s)), pt io1 (.cells (c24 t2_)), pt io2 (.cells (c24 out))] → W (X31 r) [.lp C31_10, .blk 0, .code C31_26] tm st
 | .p2 c upper s t2_ out => ∀ (tm : Fr) (st : Store) (io0 : Nat) (io1 : Nat) (io2 : Nat), Frm tm [(1, .ptr io0 0), (2, .ptr io1 0), (3, .ptr io2 0), (4, AV.int .u8 c), (5, AV.int .u8 upper)] → SH st [pt io0 (.cells (c24 s)), pt io1 (.cells (c24 t2_)), pt io2 (.cells (c24 out))] → W (X31 r) [.code C31_23, .blk 1, .code C31_25, .lp C31_10, .blk 0, .code C31_26] tm st
theorem w31 : ∀ (x : St31) (r : Arr 4 Int), G31 x = some r → M31 x r := by
 refine G31.partial_correctness M31 ?_
 intro g ih x r hF
 cases x with
 | p1 c s t2_ out =>
  dsimp only at hF
  intro tm st io0 io1 io2 hf hs
  refine en hf ?_
  refine lp ?_
  refine rn 2 rfl ?_
  refine ci hF rfl (fun c_4 hF => ?_) (fun c_4 hF => ?_)
  · refine rn 3 rfl ?_
    refine W.o (lN (s := c24 s) rfl (hs.g 0 rfl) rfl rfl) ?_
    obtain ⟨r_5, g_6, hF⟩ := bind_some hF
    refine rn 1 rfl ?_
    refine df (d17 s c _ g_6) rfl ?_
    refine rn 1 rfl ?_
    refine bi hF (fun c_7 hF => ?_) (fun c_7 hF => ?_)
    · refine wfx 16 rfl c_7 ?_
      refine rn 4 rfl ?_
      refine ct rfl rfl ?_
      exact ih (.p2 c (IntKind.wrap .u8 (c - 32)) s t2_ out) _ hF _ _ io0 io1 io2 ⟨rfl, rfl, rfl, rfl, rfl, trivial⟩ hs
    · refine wfx 16 rfl c_7 ?_
      refine W.on rfl rfl ?_
      refine W.o (lN (s := c24 s) rfl (hs.g 0 rfl) rfl rfl) ?_
      obtain ⟨r_8, g_9, hF⟩ := bind_some hF
      refine rn 1 rfl ?_
      refine W.on rfl rfl ?_
      refine df (d17 s (IntKind.wrap .u8 (c - 32)) _ g_9) rfl ?_
      refine rn 1 rfl ?_
      refine ci hF rfl (fun c_10 hF => ?_) (fun c_10 hF => ?_)
      · exact ih (.p2 c (IntKind.wrap .u8 (c - 32)) s t2_ out) _ hF _ _ io0 io1 io2 ⟨rfl, rfl, rfl, rfl, rfl, trivial⟩ hs
      · refine rn 3 rfl ?_
        exact ih (.p1 (IntKind.wrap .u8 (c + 1)) s t2_ out) _ hF _ _ io0 io1 io2 ⟨rfl, rfl, rfl, rfl, trivial⟩ hs
  · refine rn 0 rfl ?_
    refine W.o (lN (s := c24 out) rfl (hs.g 2 rfl) rfl rfl) ?_
    refine sr hs 1 rfl rfl rfl (cs' := c24 out) rfl rfl fun st hs => ?_
    refine rn 0 rfl ?_
    cases hF
    exact rD (rl_cellN rfl (hs.g 1 rfl) (LR.whole _ _) (c24_len _) rl0) rfl
 | p2 c upper s t2_ out =>
  dsimp only at hF
  intro tm st io0 io1 io2 hf hs
  refine en hf ?_
  refine rn 0 rfl ?_
  refine W.o (lN (s := c24 out) rfl (hs.g 2 rfl) rfl rfl) ?_
  obtain ⟨r_11, g_12, hF⟩ := bind_some hF
  refine rn 1 rfl ?_
  refine df (d36 out c _ g_12) rfl ?_
  obtain ⟨r_13, g_14, hF⟩ := bind_some hF
  refine rn 1 rfl ?_
  refine df (d36 r_11 upper _ g_14) rfl ?_
  refine sr hs 2 rfl rfl rfl (cs' := c24 r_13) rfl rfl fun st hs => ?_
  refine rn 3 rfl ?_
  exact ih (.p1 (IntKind.wrap .u8 (c + 1)) s t2_ r_13) _ hF _ _ io0 io1 io2 ⟨rfl, rfl, rfl, rfl, trivial⟩ hs
noncomputable def F31 (s : Arr 4 Int) : Option (Arr 4 Int) :=
 (G31 (.p1 97 s (Arr.rep 4 0) s))
theorem d31 (s : Arr 4 Int) (r : Arr 4 Int) (hF : F31 s = some r) : DFun Try.prog noG 31 [v24 s] (v24 r) := by
 unfold F31 at hF
 refine bD k31 rfl ?_
 have hs : SH [] [] := SH.nil
 generalize ([] : Store) = st at hs ⊢
 refine rn 0 rfl ?_
 refine bx hs (cs := c24 s) rfl rfl fun st b_1 hs => ?_
 refine al hs (cs := c24 (Arr.rep 4 0)) rfl fun st b_2 hs => ?_
 refine rn 0 rfl ?_
 refine W.o (lN (s := c24 s) rfl (hs.g 1 rfl) rfl rfl) ?_
 refine al hs (cs := c24 (Arr.rep 4 0)) rfl fun st b_3 hs => ?_
 refine sr hs 0 rfl rfl rfl (cs' := c24 s) rfl rfl fun st hs => ?_
 refine rn 1 rfl ?_
 exact w31 (.p1 97 s (Arr.rep 4 0) s) _ hF _ _ b_1 b_2 b_3 ⟨rfl, rfl, rfl, rfl, trivial⟩ (hs.p 3 [2, 1, 0] rfl)
/-! ### 42: paddock/paddockref07.Other -/
def C42_11 : ACode := .s (.ops [q 13 (.mv 0), q 14 (.binI .geq 13 (ku 65)), q 15 (.mv 14), (q 16 (.mv 0)).y 15, (q 17 (.binI .leq 16 (ku 90))).y 15, q 18 (.pick 15 17 (.c (.bool false))), q 12 (.mv 18)]) (.cond 12 (.s (.ops [q 19 (.mv 0), q 20 (.binI .add 19 (ku 32)), q 2 (.mv 20)]) .ret) .skip)
def C42_18 : ACode := .s (.ops [q 21 (.mv 0), q 2 (.mv 21)]) .ret
def C42_1 : ACode := .s (.ops [q 2 (.mv (ku 0))]) (.s (.block 0 (.s (.ops [q 4 (.mv 0), q 5 (.binI .geq 4 (ku 97)), q 6 (.mv 5), (q 7 (.mv 0)).y 6, (q 8 (.binI .leq 7 (ku 122))).y 6, q 9 (.pick 6 8 (.c (.bool false))), q 3 (.mv 9)]) (.cond 3 (.s (.ops [q 10 (.mv 0), q 11 (.binI .sub 10 (ku 32)), q 2 (.mv 11)]) .ret) C42_11))) C42_18)
def R42 : List RA := [(.tmp 2)]
theorem k42 : compF Try.prog (muL []) 42 = some ⟨22, C42_1, R42⟩ := by kernel_rfl
noncomputable abbrev X42 (r : Int) : Cx := cD Try.prog noG 22 R42 (AV.int .u8 r)
inductive St42 where
 | p1 (c : Int)
noncomputable def G42 : St42 → Option Int
 | .p1 c =>
  (if (decide (c ≥ 65)) = true then
   (if (decide (c ≤ 90)) = true then
    (some (IntKind.wrap .u8 (c + 32)))
   else
    (some c))
  else
   (some c))
def M42 (x : St42) (r : Int) : Prop := match x with
 | .p1 c => ∀ (tm : Fr) (st : Store), Frm tm [(0, AV.int .u8 c)] → SH st [] → W (X42 r) [.code C42_11, .blk 0, .code C42_18] tm st
theorem w42 : ∀ (x : St42) (r : Int), G42 x = some r → M42 x r := by
 intro x r hF
 cases x with
 | p1 c =>
  dsimp only [G42] at hF
  intro tm st hf hs
  refine en hf ?_
  refine rn 3 rfl ?_
  refine bi hF (fun c_3 hF => ?_) (fun c_3 hF => ?_)
  · refine wfx 15 rfl c_3 ?_
    refine rn 4 rfl ?_
    refine ci hF rfl (fun c_4 hF => ?_) (fun c_4 hF => ?_)
    · refine rn 3 rfl ?_
      cases hF
      exact rD (rlt rl0) rfl
    · refine rn 2 rfl ?_
      cases hF
      exact rD (rlt rl0) rfl
  · refine wfx 15 rfl c_3 ?_
    refine rn 4 rfl ?_
    refine cf rfl rfl ?_
    refine rn 2 rfl ?_
    cases hF
    exact rD (rlt rl0) rfl
noncomputable def F42 (c : Int) : Option Int :=
 (if (decide (c ≥ 97)) = true then
  (if (decide (c ≤ 122)) = true then
   (some (IntKind.wrap .u8 (c - 32)))
  else
   (G42 (.p1 c)))
 else
  (G42 (.p1 c)))
theorem d42 (c : Int) (r : Int) (hF : F42 c = some r) : DFun Try.prog noG 42 [AV.int .u8 c] (AV.int .u8 r) := by
 unfold F42 at hF
 refine bD k42 rfl ?_
 have hs : SH [] [] := SH.nil
 generalize ([] : Store) = st at hs ⊢
 refine rn 4 rfl ?_
 refine bi hF (fun c_1 hF => ?_) (fun c_1 hF => ?_)
 · refine wfx 6 rfl c_1 ?_
   refine rn 4 rfl ?_
   refine ci hF rfl (fun c_2 hF => ?_) (fun c_2 hF => ?_)
   · refine rn 3 rfl ?_
     cases hF
     exact rD (rlt rl0) rfl
   · exact w42 (.p1 c) _ hF _ _ ⟨rfl, trivial⟩ hs
 · refine wfx 6 rfl c_1 ?_
   refine rn 4 rfl ?_
   refine cf rfl rfl ?_
   exact w42 (.p1 c) _ hF _ _ ⟨rfl, trivial⟩ hs
/-! ### 32: paddock/paddockref07.Fold -/
def C32_10 : ACode := .s (.ops [q 11 (.binI .lss 10 9)]) (.s (.cond 11 .skip (.exit 0)) (.s (.block 1 (.s (.ops [q 12 (.iaddrL 1 8 10), q 13 (.load1 12), q 5 (.mv 13)]) (.draw [] 0 0 [q 14 (.loadN 4 3), q 15 (.mv 5), qc 16 42 [15], qc 17 35 [14, 16]] [q0 (.store 4 3 17)]))) (.ops [q 18 (.binI .add 10 (ki 1)), q 10 (.mv 18)])))
def C32_22 : ACode := .s (.ops [q 19 (.loadN 4 3), q0 (.store 4 2 19)]) .ret
def C32_1 : ACode := .s (.ops [q 1 (.box 4 0), q 2 (.alloc [(.int .u64 0), (.int .u64 0), (.int .u64 0), (.int .u64 0)])]) (.s (.ops [q 6 (.loadN 4 1), q 3 (.alloc [(.int .u64 0), (.int .u64 0), (.int .u64 0), (.int .u64 0)]), q0 (.store 4 3 6)]) (.s (.s (.ops [q 7 (.loadN 4 1), qc 8 16 [7], q 9 (.len 8), q 10 (.mv (ki 0))]) (.block 0 (.loop C32_10))) C32_22))
def R32 : List RA := [(.cellN 2 4)]
theorem k32 : compF Try.prog (muL []) 32 = some ⟨20, C32_1, R32⟩ := by kernel_rfl
noncomputable abbrev X32 (r : Arr 4 Int) : Cx := cD Try.prog noG 20 R32 (v24 r)
inductive St32 where
 | p1 (t8_ : Sl Int) (t9_ : Int) (t10_ : Int) (t2_ : Arr 4 Int) (s : Arr 4 Int)
noncomputable def G32 : St32 → Option (Arr 4 Int)
 | .p1 t8_ t9_ t10_ t2_ s =>
  (if (decide (t10_ < t9_)) = true then
   (ix (ls t8_) t10_ >>= fun v_7 =>
    (F42 v_7 >>= fun r_9 =>
     (F35 s r_9 >>= fun r_11 =>
      (G32 (.p1 t8_ t9_ (IntKind.wrap .i64 (t10_ + 1)) t2_ r_11)))))
  else
   (some s))
 partial_fixpoint
def M32 (x : St32) (r : Arr 4 Int) : Prop := match x with
 | .p1 t8_ t9_ t10_ t2_ s => ∀ (tm : Fr) (st : Store) (io0 : Nat) (io1 : Nat), Frm tm [(2, .ptr io0 0), (3, .ptr io1 0), (8, slV 1 (AV.int .u8) t8_), (9, AV.int .i64 t9_), (10, AV.int .i64 t10_)] → SH st [pt io0 (.cells (c24 t2_)), pt io1 (.cells (c24 s))] → W (X32 r) [.lp C32_10, .blk 0, .code C32_22] tm st
theorem w32 : ∀ (x : St32) (r : Arr 4 Int), G32 x = some r → M32 x r := by
 refine G32.partial_correctness M32 ?_
 intro g ih x r hF
 cases x with
 | p1 t8_ t9_ t10_ t2_ s =>
  dsimp only at hF
  intro tm st io0 io1 hf hs
  refine en hf ?_
  refine lp ?_
  refine rn 1 rfl ?_
  refine ci hF rfl (fun c_6 hF => ?_) (fun c_6 hF => ?_)
  · obtain ⟨v_7, g_8, hF⟩ := bind_some hF
    refine rn 0 rfl ?_
    refine W.o (e_iaddrL (rd_V rfl) rfl g_8) ?_
    refine W.o (l1D rfl rfl) ?_
    refine rn 1 rfl ?_
    have h0 := hs
    refine dr0 ?_
    refine de rfl (lN (s := c24 s) rfl (h0.g 1 rfl) rfl rfl) ?_
    obtain ⟨r_9, g_10, hF⟩ := bind_some hF
    refine dn 1 rfl ?_
    refine ddf (d42 v_7 _ g_10) rfl ?_
    obtain ⟨r_11, g_12, hF⟩ := bind_some hF
    refine ddf (d35 s r_9 _ g_12) rfl ?_
    refine dz ?_
    refine sr hs 1 rfl rfl rfl (cs' := c24 r_11) rfl rfl fun st hs => ?_
    refine rn 2 rfl ?_
    exact ih (.p1 t8_ t9_ (IntKind.wrap .i64 (t10_ + 1)) t2_ r_11) _ hF _ _ io0 io1 ⟨rfl, rfl, rfl, rfl, rfl, trivial⟩ hs
  · refine rn 0 rfl ?_
    refine W.o (lN (s := c24 s) rfl (hs.g 1 rfl) rfl rfl) ?_
    refine sr hs 0 rfl rfl rfl (cs' := c24 s) rfl rfl fun st hs => ?_
    refine rn 0 rfl ?_
    cases hF
    exact rD (rl_cellN rfl (hs.g 0 rfl) (LR.whole _ _) (c24_len _) rl0) rfl
noncomputable def F32 (a : Arr 4 Int) : Option (Arr 4 Int) :=
 (F16 a >>= fun r_4 =>
  (G32 (.p1 r_4 ((ls r_4).length : Int) 0 (Arr.rep 4 0) a)))
theorem d32 (a : Arr 4 Int) (r : Arr 4 Int) (hF : F32 a = some r) : DFun Try.prog noG 32 [v24 a] (v24 r) := by
 unfold F32 at hF
 refine bD k32 rfl ?_
 have hs : SH [] [] := SH.nil
 generalize ([] : Store) = st at hs ⊢
 refine rn 0 rfl ?_
 refine bx hs (cs := c24 a) rfl rfl fun st b_1 hs => ?_
 refine al hs (cs := c24 (Arr.rep 4 0)) rfl fun st b_2 hs => ?_
 refine rn 0 rfl ?_
 refine W.o (lN (s := c24 a) rfl (hs.g 1 rfl) rfl rfl) ?_
 refine al hs (cs := c24 (Arr.rep 4 0)) rfl fun st b_3 hs => ?_
 refine sr hs 0 rfl rfl rfl (cs' := c24 a) rfl rfl fun st hs => ?_
 refine rn 0 rfl ?_
 refine W.o (lN (s := c24 a) rfl (hs.g 2 rfl) rfl rfl) ?_
 obtain ⟨r_4, g_5, hF⟩ := bind_some hF
 refine df (d16 a _ g_5) rfl ?_
 refine W.o (e_len (rd_V rfl)) ?_
 refine rn 1 rfl ?_
 exact w32 (.p1 r_4 ((ls r_4).length : Int) 0 (Arr.rep 4 0) a) _ hF _ _ b_2 b_3 ⟨rfl, rfl, rfl, rfl, rfl, trivial⟩ (hs.p 3 [1, 0] rfl)
/-! ### 41: paddock/sets.element -/
def C41_20 : ACode := .s (.ops [q 8 (.binI .eql 3 (ku 45)), q 4 (.mv 8)]) (.cond 4 .skip (.s (.ops [q 9 (.binI .eql 3 (ku 92)), q 4 (.mv 9)]) (.cond 4 .skip (.ops [q 10 (.binI .eql 3 (ku 10)), q 4 (.mv 10)]))))
def C41_30 : ACode := .s (.ops [q 11 (.mv 0), q 12 (.bslice 1 1 false [(.int .u8 0)] [(0, (1, 11))] false), q 13 (.b2s 12), q 14 (.binS .add (.c (.str [91, 46])) 13), q 15 (.binS .add 14 (.c (.str [46, 93]))), q 2 (.mv 15)]) .ret
def C41_34 : ACode := .s (.ops [q 16 (.mv 0), q 17 (.bslice 1 1 false [(.int .u8 0)] [(0, (1, 16))] false), q 18 (.b2s 17), q 2 (.mv 18)]) .ret
def C41_1 : ACode := .s (.ops [q 2 (.mv (.c (.str [])))]) (.s (.s (.ops [q 3 (.mv 0)]) (.block 0 (.s (.s (.ops [q 5 (.binI .eql 3 (ku 91)), q 4 (.mv 5)]) (.cond 4 .skip (.s (.ops [q 6 (.binI .eql 3 (ku 93)), q 4 (.mv 6)]) (.cond 4 .skip (.s (.ops [q 7 (.binI .eql 3 (ku 94)), q 4 (.mv 7)]) (.cond 4 .skip C41_20)))))) (.cond 4 C41_30 .skip)))) C41_34)
def R41 : List RA := [(.tmp 2)]
theorem k41 : compF Try.prog (muL []) 41 = some ⟨19, C41_1, R41⟩ := by kernel_rfl
noncomputable abbrev X41 (r : Str) : Cx := cD Try.prog noG 19 R41 (AV.str r)
inductive St41 where
 | p1 (c : Int)
noncomputable def G41 : St41 → Option Str
 | .p1 c =>
  (if (([91, 46] : Str)).length + (toBs (ls (some ([c] : List Int)))).length ≤ 9223372036854775807 then
   (if (([91, 46] : Str) ++ (toBs (ls (some ([c] : List Int))))).length + (([46, 93] : Str)).length ≤ 9223372036854775807 then
    (some ((([91, 46] : Str) ++ (toBs (ls (some ([c] : List Int))))) ++ ([46, 93] : Str)))
   else none)
  else none)
def M41 (x : St41) (r : Str) : Prop := match x with
 | .p1 c => ∀ (tm : Fr) (st : Store), Frm tm [(0, AV.int .u8 c)] → SH st [] → W (X41 r) [.code C41_30, .blk 0, .code C41_34] tm st
theorem w41 : ∀ (x : St41) (r : Str), G41 x = some r → M41 x r := by
 intro x r hF
 cases x with
 | p1 c =>
  dsimp only [G41] at hF
  intro tm st hf hs
  refine en hf ?_
  refine rn 1 rfl ?_
  refine bs (f := AV.int .u8) ([c] : List Int) hs rfl rfl rfl rfl fun st b_8 hs => ?_
  refine W.o (e_b2s (rd_W (o := (some ([c] : List Int))) (id := b_8) rfl)) ?_
  obtain ⟨g_9, hF⟩ := grd_some hF
  refine W.o (e_str rfl rfl (op_cat _ _ g_9)) ?_
  obtain ⟨g_10, hF⟩ := grd_some hF
  refine W.o (e_str rfl rfl (op_cat _ _ g_10)) ?_
  refine rn 1 rfl ?_
  cases hF
  exact rD (rlt rl0) rfl
noncomputable def F41 (c : Int) : Option Str :=
 (if (c == 91) = true then
  (G41 (.p1 c))
 else
  (if (c == 93) = true then
   (G41 (.p1 c))
  else
   (if (c == 94) = true then
    (G41 (.p1 c))
   else
    (if (c == 45) = true then
     (G41 (.p1 c))
    else
     (if (c == 92) = true then
      (G41 (.p1 c))
     else
      (if (c == 10) = true then
       (G41 (.p1 c))
      else
       (some (toBs (ls (some ([c] : List Int)))))))))))
theorem d41 (c : Int) (r : Str) (hF : F41 c = some r) : DFun Try.prog noG 41 [AV.int .u8 c] (AV.str r) := by
 unfold F41 at hF
 refine bD k41 rfl ?_
 have hs : SH [] [] := SH.nil
 generalize ([] : Store) = st at hs ⊢
 refine rn 4 rfl ?_
 refine ci hF rfl (fun c_1 hF => ?_) (fun c_1 hF => ?_)
 · refine rn 0 rfl ?_
   refine ct rfl c_1 ?_
   exact w41 (.p1 c) _ hF _ _ ⟨rfl, trivial⟩ hs
 · refine rn 2 rfl ?_
   refine ci hF rfl (fun c_2 hF => ?_) (fun c_2 hF => ?_)
   · refine rn 0 rfl ?_
     refine ct rfl c_2 ?_
     exact w41 (.p1 c) _ hF _ _ ⟨rfl, trivial⟩ hs
   · refine rn 2 rfl ?_
     refine ci hF rfl (fun c_3 hF => ?_) (fun c_3 hF => ?_)
     · refine rn 0 rfl ?_
       refine ct rfl c_3 ?_
       exact w41 (.p1 c) _ hF _ _ ⟨rfl, trivial⟩ hs
     · refine rn 2 rfl ?_
       refine ci hF rfl (fun c_4 hF => ?_) (fun c_4 hF => ?_)
       · refine rn 0 rfl ?_
         refine ct rfl c_4 ?_
         exact w41 (.p1 c) _ hF _ _ ⟨rfl, trivial⟩ hs
       · refine rn 2 rfl ?_
         refine ci hF rfl (fun c_5 hF => ?_) (fun c_5 hF => ?_)
         · refine rn 0 rfl ?_
           refine ct rfl c_5 ?_
           exact w41 (.p1 c) _ hF _ _ ⟨rfl, trivial⟩ hs
         · refine rn 2 rfl ?_
           refine ci hF rfl (fun c_6 hF => ?_) (fun c_6 hF => ?_)
           · exact w41 (.p1 c) _ hF _ _ ⟨rfl, trivial⟩ hs
           · refine rn 1 rfl ?_
             refine bs (f := AV.int .u8) ([c] : List Int) hs rfl rfl rfl rfl fun st b_7 hs => ?_
             refine W.o (e_b2s (rd_W (o := (some ([c] : List Int))) (id := b_7) rfl)) ?_
             refine rn 1 rfl ?_
             cases hF
             exact rD (rlt rl0) rfl
/-! ### 43: paddock/paddockref07.told -/
def C43_20 : ACode := .s (.ops [q 8 (.binI .eql 3 (ku 45)), q 4 (.mv 8)]) (.cond 4 .skip (.s (.ops [q 9 (.binI .eql 3 (ku 92)), q 4 (.mv 9)]) (.cond 4 .skip (.ops [q 10 (.binI .eql 3 (ku 10)), q 4 (.mv 10)]))))
def C43_30 : ACode := .s (.ops [q 11 (.mv 0), q 12 (.bslice 1 1 false [(.int .u8 0)] [(0, (1, 11))] false), q 13 (.b2s 12), q 14 (.binS .add (.c (.str [91, 46])) 13), q 15 (.binS .add 14 (.c (.str [46, 93]))), q 2 (.mv 15)]) .ret
def C43_34 : ACode := .s (.ops [q 16 (.mv 0), q 17 (.bslice 1 1 false [(.int .u8 0)] [(0, (1, 16))] false), q 18 (.b2s 17), q 2 (.mv 18)]) .ret
def C43_1 : ACode := .s (.ops [q 2 (.mv (.c (.str [])))]) (.s (.s (.ops [q 3 (.mv 0)]) (.block 0 (.s (.s (.ops [q 5 (.binI .eql 3 (ku 91)), q 4 (.mv 5)]) (.cond 4 .skip (.s (.ops [q 6 (.binI .eql 3 (ku 93)), q 4 (.mv 6)]) (.cond 4 .skip (.s (.ops [q 7 (.binI .eql 3 (ku 94)), q 4 (.mv 7)]) (.cond 4 .skip C43_20)))))) (.cond 4 C43_30 .skip)))) C43_34)
def R43 : List RA := [(.tmp 2)]
theorem k43 : compF Try.prog (muL []) 43 = some ⟨19, C43_1, R43⟩ := by kernel_rfl
noncomputable abbrev X43 (r : Str) : Cx := cD Try.prog noG 19 R43 (AV.str r)
inductive St43 where
 | p1 (c : Int)
noncomputable def G43 : St43 → Option Str
 | .p1 c =>
  (if (([91, 46] : Str)).length + (toBs (ls (some ([c] : List Int)))).length ≤ 9223372036854775807 then
   (if (([91, 46] : Str) ++ (toBs (ls (some ([c] : List Int))))).length + (([46, 93] : Str)).length ≤ 9223372036854775807 then
    (some ((([91, 46] : Str) ++ (toBs (ls (some ([c] : List Int))))) ++ ([46, 93] : Str)))
   else none)
  else none)
def M43 (x : St43) (r : Str) : Prop := match x with
 | .p1 c => ∀ (tm : Fr) (st : Store), Frm tm [(0, AV.int .u8 c)] → SH st [] → W (X43 r) [.code C43_30, .blk 0, .code C43_34] tm st
theorem w43 : ∀ (x : St43) (r : Str), G43 x = some r → M43 x r := by
 intro x r hF
 cases x with
 | p1 c =>
  dsimp only [G43] at hF
  intro tm st hf hs
  refine en hf ?_
  refine rn 1 rfl ?_
  refine bs (f := AV.int .u8) ([c] : List Int) hs rfl rfl rfl rfl fun st b_8 hs => ?_
  refine W.o (e_b2s (rd_W (o := (some ([c] : List Int))) (id := b_8) rfl)) ?_
  obtain ⟨g_9, hF⟩ := grd_some hF
  refine W.o (e_str rfl rfl (op_cat _ _ g_9)) ?_
  obtain ⟨g_10, hF⟩ := grd_some hF
  refine W.o (e_str rfl rfl (op_cat _ _ g_10)) ?_
  refine rn 1 rfl ?_
  cases hF
  exact rD (rlt rl0) rfl
noncomputable def F43 (c : Int) : Option Str :=
 (if (c == 91) = true then
  (G43 (.p1 c))
 else
  (if (c == 93) = true then
   (G43 (.p1 c))
  else
   (if (c == 94) = true then
    (G43 (.p1 c))
   else
    (if (c == 45) = true then
     (G43 (.p1 c))
    else
     (if (c == 92) = true then
      (G43 (.p1 c))
     else
      (if (c == 10) = true then
       (G43 (.p1 c))
      else
       (some (toBs (ls (some ([c] : List Int)))))))))))
theorem d43 (c : Int) (r : Str) (hF : F43 c = some r) : DFun Try.prog noG 43 [AV.int .u8 c] (AV.str r) := by
 unfold F43 at hF
 refine bD k43 rfl ?_
 have hs : SH [] [] := SH.nil
 generalize ([] : Store) = st at hs ⊢
 refine rn 4 rfl ?_
 refine ci hF rfl (fun c_1 hF => ?_) (fun c_1 hF => ?_)
 · refine rn 0 rfl ?_
   refine ct rfl c_1 ?_
   exact w43 (.p1 c) _ hF _ _ ⟨rfl, trivial⟩ hs
 · refine rn 2 rfl ?_
   refine ci hF rfl (fun c_2 hF => ?_) (fun c_2 hF => ?_)
   · refine rn 0 rfl ?_
     refine ct rfl c_2 ?_
     exact w43 (.p1 c) _ hF _ _ ⟨rfl, trivial⟩ hs
   · refine rn 2 rfl ?_
     refine ci hF rfl (fun c_3 hF => ?_) (fun c_3 hF => ?_)
     · refine rn 0 rfl ?_
       refine ct rfl c_3 ?_
       exact w43 (.p1 c) _ hF _ _ ⟨rfl, trivial⟩ hs
     · refine rn 2 rfl ?_
       refine ci hF rfl (fun c_4 hF => ?_) (fun c_4 hF => ?_)
       · refine rn 0 rfl ?_
         refine ct rfl c_4 ?_
         exact w43 (.p1 c) _ hF _ _ ⟨rfl, trivial⟩ hs
       · refine rn 2 rfl ?_
         refine ci hF rfl (fun c_5 hF => ?_) (fun c_5 hF => ?_)
         · refine rn 0 rfl ?_
           refine ct rfl c_5 ?_
           exact w43 (.p1 c) _ hF _ _ ⟨rfl, trivial⟩ hs
         · refine rn 2 rfl ?_
           refine ci hF rfl (fun c_6 hF => ?_) (fun c_6 hF => ?_)
           · exact w43 (.p1 c) _ hF _ _ ⟨rfl, trivial⟩ hs
           · refine rn 1 rfl ?_
             refine bs (f := AV.int .u8) ([c] : List Int) hs rfl rfl rfl rfl fun st b_7 hs => ?_
             refine W.o (e_b2s (rd_W (o := (some ([c] : List Int))) (id := b_7) rfl)) ?_
             refine rn 1 rfl ?_
             cases hF
             exact rD (rlt rl0) rfl
end Go.Proofs.Ytfjdegohjnejkaa
