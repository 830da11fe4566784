/-
  Functions of the program's as plain functions.
-/
import Derived.Test.YtfjdegohjnejkaaD0
set_option linter.unusedVariables false
set_option maxRecDepth 4000
set_option maxHeartbeats 4000000
namespace Go.Proofs.Ytfjdegohjnejkaa
open Go AW
attribute [local irreducible] W WD SH XS XLoop DFun XCall
/-! ### 16: paddock/paddockref07.Bytes -/
def C16_10 : ACode := .s (.s (.ops [q 5 (.mv 4), q 6 (.binI .lss 5 (ki 256))]) (.cond 6 .skip (.exit 0))) (.s (.block 1 (.s (.ops [q 9 (.loadN 4 1), q 10 (.mv 4), q 11 (.cvI .u8 10), qc 12 18 [9, 11]]) (.cond 12 (.ops [q 13 (.mv 3), q 14 (.mv 4), q 15 (.cvI .u8 14), q 16 (.bslice 1 1 false [(.int .u8 0)] [(0, (1, 15))] false), q 17 (.app 1 1 13 16), q 3 (.mv 17)]) .skip))) (.ops [q 7 (.mv 4), q 8 (.binI .add 7 (ki 1)), q 4 (.mv 8)]))
def C16_24 : ACode := .s (.ops [q 18 (.mv 3), q 2 (.mv 18)]) .ret
def C16_1 : ACode := .s (.ops [q 1 (.box 4 0), q 2 (.mv (.c .nils))]) (.s (.ops [q 3 (.mv (.c .nils))]) (.s (.s (.ops [q 4 (.mv (ki 0))]) (.block 0 (.loop C16_10))) C16_24))
def R16 : List RA := [(.tmp 2)]
theorem k16 : compF Try.prog (muL []) 16 = some ⟨19, C16_1, R16⟩ := by kernel_rfl
noncomputable abbrev X16 (r : Sl Int) : Cx := cD Try.prog noG 19 R16 (slV 1 (AV.int .u8) r)
inductive St16 where
 | p1 (c : Int) (s : Arr 4 Int) (out : Sl Int)
noncomputable def G16 : St16 → Option (Sl Int)
 | .p1 c s out =>
  (if (decide (c < 256)) = true then
   (F18 s (IntKind.wrap .u8 c) >>= fun r_4 =>
    (if r_4 = true then
     (if ((ls out).length + (ls (some ([IntKind.wrap .u8 c] : List Int))).length) * 1 ≤ 140737488355328 then
      (G16 (.p1 (IntKind.wrap .i64 (c + 1)) s (sapp out (ls (some ([IntKind.wrap .u8 c] : List Int))))))
     else none)
    else
     (G16 (.p1 (IntKind.wrap .i64 (c + 1)) s out))))
  else
   (some out))
 partial_fixpoint
def M16 (x : St16) (r : Sl Int) : Prop := match x with
 | .p1 c s out => ∀ (tm : Fr) (st : Store) (io0 : Nat) (io1 : Nat), Frm tm [(1, .ptr io0 0), (3, ownV 1 (AV.int .u8) out io1), (4, AV.int .i64 c)] → SH st [pt io0 (.cells (c24 s)), ownA io1 out] → W (X16 r) [.lp C16_10, .blk 0, .code C16_24] tm st
theorem w16 : ∀ (x : St16) (r : Sl Int), G16 x = some r → M16 x r := by
 refine G16.partial_correctness M16 ?_
 intro g ih x r hF
 cases x with
 | p1 c s out =>
  dsimp only at hF
  intro tm st io0 io1 hf hs
  refine en hf ?_
  refine lp ?_
  refine rn 2 rfl ?_
  refine ci hF rfl (fun c_3 hF => ?_) (fun c_3 hF => ?_)
  · refine rn 0 rfl ?_
    refine W.o (lN (s := c24 s) rfl (hs.g 0 rfl) rfl rfl) ?_
    obtain ⟨r_4, g_5, hF⟩ := bind_some hF
    refine rn 2 rfl ?_
    refine df (d18 s (IntKind.wrap .u8 c) _ g_5) rfl ?_
    refine rn 0 rfl ?_
    refine ci hF rfl (fun c_6 hF => ?_) (fun c_6 hF => ?_)
    · refine rn 3 rfl ?_
      refine bs (f := AV.int .u8) ([IntKind.wrap .u8 c] : List Int) hs rfl rfl rfl rfl fun st b_7 hs => ?_
      obtain ⟨g_8, hF⟩ := grd_some hF
      refine ap (ys := ls (some ([IntKind.wrap .u8 c] : List Int))) hs 2 rfl rfl (ae_rd (rd_W (o := (some ([IntKind.wrap .u8 c] : List Int))) (id := b_7) rfl)) g_8 (fun _ => rfl) fun st b_9 hs => ?_
      refine rn 4 rfl ?_
      exact ih (.p1 (IntKind.wrap .i64 (c + 1)) s (sapp out (ls (some ([IntKind.wrap .u8 c] : List Int))))) _ hF _ _ io0 b_9 ⟨rfl, rfl, rfl, trivial⟩ (hs.p 3 [1, 1] rfl)
    · refine rn 3 rfl ?_
      exact ih (.p1 (IntKind.wrap .i64 (c + 1)) s out) _ hF _ _ io0 io1 ⟨rfl, rfl, rfl, trivial⟩ hs
  · refine rn 2 rfl ?_
    cases hF
    exact rD' (rlt rl0) dsw
noncomputable def F16 (s : Arr 4 Int) : Option (Sl Int) :=
 (G16 (.p1 0 s none))
theorem d16 (s : Arr 4 Int) (r : Sl Int) (hF : F16 s = some r) : DFun Try.prog noG 16 [v24 s] (slV 1 (AV.int .u8) r) := by
 unfold F16 at hF
 refine bD k16 rfl ?_
 have hs : SH [] [] := SH.nil
 generalize ([] : Store) = st at hs ⊢
 refine rn 0 rfl ?_
 refine bx hs (cs := c24 s) rfl rfl fun st b_1 hs => ?_
 refine rn 3 rfl ?_
 have hs := hs.ownNil Int
 exact w16 (.p1 0 s none) _ hF _ _ b_1 0 ⟨rfl, rfl, rfl, trivial⟩ (hs.p 2 [1, 0] rfl)
/-! ### 37: math/bits.OnesCount64 -/
def C37_1 : ACode := .s (.ops [q 2 (.mv (ki 0))]) (.s (.ops [q 3 (.mv 0), q 4 (.binI .shr 3 (.c (.int .u64 1))), q 5 (.binI .and 4 (.c (.int .u64 6148914691236517205))), q 6 (.mv 0), q 7 (.binI .and 6 (.c (.int .u64 6148914691236517205))), q 8 (.binI .add 5 7), q 0 (.mv 8)]) (.s (.ops [q 9 (.mv 0), q 10 (.binI .shr 9 (.c (.int .u64 2))), q 11 (.binI .and 10 (.c (.int .u64 3689348814741910323))), q 12 (.mv 0), q 13 (.binI .and 12 (.c (.int .u64 3689348814741910323))), q 14 (.binI .add 11 13), q 0 (.mv 14)]) (.s (.ops [q 15 (.mv 0), q 16 (.binI .shr 15 (.c (.int .u64 4))), q 17 (.mv 0), q 18 (.binI .add 16 17), q 19 (.binI .and 18 (.c (.int .u64 1085102592571150095))), q 0 (.mv 19)]) (.s (.ops [q 20 (.mv 0), q 21 (.mv 0), q 22 (.binI .shr 21 (.c (.int .u64 8))), q 23 (.binI .add 20 22), q 0 (.mv 23)]) (.s (.ops [q 24 (.mv 0), q 25 (.mv 0), q 26 (.binI .shr 25 (.c (.int .u64 16))), q 27 (.binI .add 24 26), q 0 (.mv 27)]) (.s (.ops [q 28 (.mv 0), q 29 (.mv 0), q 30 (.binI .shr 29 (.c (.int .u64 32))), q 31 (.binI .add 28 30), q 0 (.mv 31)]) (.s (.ops [q 32 (.mv 0), q 33 (.cvI .i64 32), q 34 (.binI .and 33 (ki 127)), q 2 (.mv 34)]) .ret)))))))
def R37 : List RA := [(.tmp 2)]
theorem k37 : compF Try.prog (muL []) 37 = some ⟨35, C37_1, R37⟩ := by kernel_rfl
noncomputable abbrev X37 (r : Int) : Cx := cD Try.prog noG 35 R37 (AV.int .i64 r)
noncomputable def F37 (x_ : Int) : Option Int :=
 (some (andI .i64 (IntKind.wrap .i64 (IntKind.wrap .u64 ((IntKind.wrap .u64 ((IntKind.wrap .u64 ((andI .u64 (IntKind.wrap .u64 ((shrI .u64 (IntKind.wrap .u64 ((andI .u64 (shrI .u64 (IntKind.wrap .u64 ((andI .u64 (shrI .u64 x_ 1) 6148914691236517205) + (andI .u64 x_ 6148914691236517205))) 2) 3689348814741910323) + (andI .u64 (IntKind.wrap .u64 ((andI .u64 (shrI .u64 x_ 1) 6148914691236517205) + (andI .u64 x_ 6148914691236517205))) 3689348814741910323))) 4) + (IntKind.wrap .u64 ((andI .u64 (shrI .u64 (IntKind.wrap .u64 ((andI .u64 (shrI .u64 x_ 1) 6148914691236517205) + (andI .u64 x_ 6148914691236517205))) 2) 3689348814741910323) + (andI .u64 (IntKind.wrap .u64 ((andI .u64 (shrI .u64 x_ 1) 6148914691236517205) + (andI .u64 x_ 6148914691236517205))) 3689348814741910323))))) 1085102592571150095) + (shrI .u64 (andI .u64 (IntKind.wrap .u64 ((shrI .u64 (IntKind.wrap .u64 ((andI .u64 (shrI .u64 (IntKind.wrap .u64 ((andI .u64 (shrI .u64 x_ 1) 6148914691236517205) + (andI .u64 x_ 6148914691236517205))) 2) 3689348814741910323) + (andI .u64 (IntKind.wrap .u64 ((andI .u64 (shrI .u64 x_ 1) 6148914691236517205) + (andI .u64 x_ 6148914691236517205))) 3689348814741910323))) 4) + (IntKind.wrap .u64 ((andI .u64 (shrI .u64 (IntKind.wrap .u64 ((andI .u64 (shrI .u64 x_ 1) 6148914691236517205) + (andI .u64 x_ 6148914691236517205))) 2) 3689348814741910323) + (andI .u64 (IntKind.wrap .u64 ((andI .u64 (shrI .u64 x_ 1) 6148914691236517205) + (andI .u64 x_ 6148914691236517205))) 3689348814741910323))))) 1085102592571150095) 8))) + (shrI .u64 (IntKind.wrap .u64 ((andI .u64 (IntKind.wrap .u64 ((shrI .u64 (IntKind.wrap .u64 ((andI .u64 (shrI .u64 (IntKind.wrap .u64 ((andI .u64 (shrI .u64 x_ 1) 6148914691236517205) + (andI .u64 x_ 6148914691236517205))) 2) 3689348814741910323) + (andI .u64 (IntKind.wrap .u64 ((andI .u64 (shrI .u64 x_ 1) 6148914691236517205) + (andI .u64 x_ 6148914691236517205))) 3689348814741910323))) 4) + (IntKind.wrap .u64 ((andI .u64 (shrI .u64 (IntKind.wrap .u64 ((andI .u64 (shrI .u64 x_ 1) 6148914691236517205) + (andI .u64 x_ 6148914691236517205))) 2) 3689348814741910323) + (andI .u64 (IntKind.wrap .u64 ((andI .u64 (shrI .u64 x_ 1) 6148914691236517205) + (andI .u64 x_ 6148914691236517205))) 3689348814741910323))))) 1085102592571150095) + (shrI .u64 (andI .u64 (IntKind.wrap .u64 ((shrI .u64 (IntKind.wrap .u64 ((andI .u64 (shrI .u64 (IntKind.wrap .u64 ((andI .u64 (shrI .u64 x_ 1) 6148914691236517205) + (andI .u64 x_ 6148914691236517205))) 2) 3689348814741910323) + (andI .u64 (IntKind.wrap .u64 ((andI .u64 (shrI .u64 x_ 1) 6148914691236517205) + (andI .u64 x_ 6148914691236517205))) 3689348814741910323))) 4) + (IntKind.wrap .u64 ((andI .u64 (shrI .u64 (IntKind.wrap .u64 ((andI .u64 (shrI .u64 x_ 1) 6148914691236517205) + (andI .u64 x_ 6148914691236517205))) 2) 3689348814741910323) + (andI .u64 (IntKind.wrap .u64 ((andI .u64 (shrI .u64 x_ 1) 6148914691236517205) + (andI .u64 x_ 6148914691236517205))) 3689348814741910323))))) 1085102592571150095) 8))) 16))) + (shrI .u64 (IntKind.wrap .u64 ((IntKind.wrap .u64 ((andI .u64 (IntKind.wrap .u64 ((shrI .u64 (IntKind.wrap .u64 ((andI .u64 (shrI .u64 (IntKind.wrap .u64 ((andI .u64 (shrI .u64 x_ 1) 6148914691236517205) + (andI .u64 x_ 6148914691236517205))) 2) 3689348814741910323) + (andI .u64 (IntKind.wrap .u64 ((andI .u64 (shrI .u64 x_ 1) 6148914691236517205) + (andI .u64 x_ 6148914691236517205))) 3689348814741910323))) 4) + (IntKind.wrap .u64 ((andI .u64 (shrI .u64 (IntKind.wrap .u64 ((andI .u64 (shrI .u64 x_ 1) 6148914691236517205) + (andI .u64 x_ 6148914691236517205))) 2) 3689348814741910323) + (andI .u64 (IntKind.wrap .u64 ((andI .u64 (shrI .u64 x_ 1) 6148914691236517205) + (andI .u64 x_ 6148914691236517205))) 3689348814741910323))))) 1085102592571150095) + (shrI .u64 (andI .u64 (IntKind.wrap .u64 ((shrI .u64 (IntKind.wrap .u64 ((andI .u64 (shrI .u64 (IntKind.wrap .u64 ((andI .u64 (shrI .u64 x_ 1) 6148914691236517205) + (andI .u64 x_ 6148914691236517205))) 2) 3689348814741910323) + (andI .u64 (IntKind.wrap .u64 ((andI .u64 (shrI .u64 x_ 1) 6148914691236517205) + (andI .u64 x_ 6148914691236517205))) 3689348814741910323))) 4) + (IntKind.wrap .u64 ((andI .u64 (shrI .u64 (IntKind.wrap .u64 ((andI .u64 (shrI .u64 x_ 1) 6148914691236517205) + (andI .u64 x_ 6148914691236517205))) 2) 3689348814741910323) + (andI .u64 (IntKind.wrap .u64 ((andI .u64 (shrI .u64 x_ 1) 6148914691236517205) + (andI .u64 x_ 6148914691236517205))) 3689348814741910323))))) 1085102592571150095) 8))) + (shrI .u64 (IntKind.wrap .u64 ((andI .u64 (IntKind.wrap .u64 ((shrI .u64 (IntKind.wrap .u64 ((andI .u64 (shrI .u64 (IntKind.wrap .u64 ((andI .u64 (shrI .u64 x_ 1) 6148914691236517205) + (andI .u64 x_ 6148914691236517205))) 2) 3689348814741910323) + (andI .u64 (IntKind.wrap .u64 ((andI .u64 (shrI .u64 x_ 1) 6148914691236517205) + (andI .u64 x_ 6148914691236517205))) 3689348814741910323))) 4) + (IntKind.wrap .u64 ((andI .u64 (shrI .u64 (IntKind.wrap .u64 ((andI .u64 (shrI .u64 x_ 1) 6148914691236517205) + (andI .u64 x_ 6148914691236517205))) 2) 3689348814741910323) + (andI .u64 (IntKind.wrap .u64 ((andI .u64 (shrI .u64 x_ 1) 6148914691236517205) + (andI .u64 x_ 6148914691236517205))) 3689348814741910323))))) 1085102592571150095) + (shrI .u64 (andI .u64 (IntKind.wrap .u64 ((shrI .u64 (IntKind.wrap .u64 ((andI .u64 (shrI .u64 (IntKind.wrap .u64 ((andI .u64 (shrI .u64 x_ 1) 6148914691236517205) + (andI .u64 x_ 6148914691236517205))) 2) 3689348814741910323) + (andI .u64 (IntKind.wrap .u64 ((andI .u64 (shrI .u64 x_ 1) 6148914691236517205) + (andI .u64 x_ 6148914691236517205))) 3689348814741910323))) 4) + (IntKind.wrap .u64 ((andI .u64 (shrI .u64 (IntKind.wrap .u64 ((andI .u64 (shrI .u64 x_ 1) 6148914691236517205) + (andI .u64 x_ 6148914691236517205))) 2) 3689348814741910323) + (andI .u64 (IntKind.wrap .u64 ((andI .u64 (shrI .u64 x_ 1) 6148914691236517205) + (andI .u64 x_ 6148914691236517205))) 3689348814741910323))))) 1085102592571150095) 8))) 16))) 32)))) 127))
theorem d37 (x_ : Int) (r : Int) (hF : F37 x_ = some r) : DFun Try.prog noG 37 [AV.int .u64 x_] (AV.int .i64 r) := by
 unfold F37 at hF
 refine bD k37 rfl ?_
 have hs : SH [] [] := SH.nil
 generalize ([] : Store) = st at hs ⊢
 refine rn 2 rfl ?_
 refine W.o (e_bin rfl rfl (op_shr _ _ _ _ (by decide))) ?_
 refine rn 6 rfl ?_
 refine W.o (e_bin rfl rfl (op_shr _ _ _ _ (by decide))) ?_
 refine rn 6 rfl ?_
 refine W.o (e_bin rfl rfl (op_shr _ _ _ _ (by decide))) ?_
 refine rn 6 rfl ?_
 refine W.o (e_bin rfl rfl (op_shr _ _ _ _ (by decide))) ?_
 refine rn 4 rfl ?_
 refine W.o (e_bin rfl rfl (op_shr _ _ _ _ (by decide))) ?_
 refine rn 4 rfl ?_
 refine W.o (e_bin rfl rfl (op_shr _ _ _ _ (by decide))) ?_
 refine rn 6 rfl ?_
 cases hF
 exact rD (rlt rl0) rfl
/-! ### 19: paddock/sets.Count -/
def C19_10 : ACode := .s (.ops [q 8 (.binI .lss 7 (ki 4))]) (.s (.cond 8 .skip (.exit 0)) (.s (.block 1 (.s (.ops [q 9 (.ixA1 4 1 6 7), q 5 (.mv 9)]) (.ops [q 10 (.mv 3), q 11 (.mv 5), qc 12 37 [11], q 13 (.binI .add 10 12), q 3 (.mv 13)]))) (.ops [q 14 (.binI .add 7 (ki 1)), q 7 (.mv 14)])))
def C19_22 : ACode := .s (.ops [q 15 (.mv 3), q 2 (.mv 15)]) .ret
def C19_1 : ACode := .s (.ops [q 1 (.box 4 0), q 2 (.mv (ki 0))]) (.s (.ops [q 3 (.mv (ki 0))]) (.s (.s (.ops [q 6 (.loadN 4 1), q 7 (.mv (ki 0))]) (.block 0 (.loop C19_10))) C19_22))
def R19 : List RA := [(.tmp 2)]
theorem k19 : compF Try.prog (muL []) 19 = some ⟨16, C19_1, R19⟩ := by kernel_rfl
noncomputable abbrev X19 (r : Int) : Cx := cD Try.prog noG 16 R19 (AV.int .i64 r)
inductive St19 where
 | p1 (n : Int) (t6_ : Arr 4 Int) (t7_ : Int)
noncomputable def G19 : St19 → Option Int
 | .p1 n t6_ t7_ =>
  (if (decide (t7_ < 4)) = true then
   (ix t6_.l t7_ >>= fun v_3 =>
    (F37 v_3 >>= fun r_5 =>
     (G19 (.p1 (IntKind.wrap .i64 (n + r_5)) t6_ (IntKind.wrap .i64 (t7_ + 1))))))
  else
   (some n))
 partial_fixpoint
def M19 (x : St19) (r : Int) : Prop := match x with
 | .p1 n t6_ t7_ => ∀ (tm : Fr) (st : Store), Frm tm [(3, AV.int .i64 n), (6, v24 t6_), (7, AV.int .i64 t7_)] → SH st [] → W (X19 r) [.lp C19_10, .blk 0, .code C19_22] tm st
theorem w19 : ∀ (x : St19) (r : Int), G19 x = some r → M19 x r := by
 refine G19.partial_correctness M19 ?_
 intro g ih x r hF
 cases x with
 | p1 n t6_ t7_ =>
  dsimp only at hF
  intro tm st hf hs
  refine en hf ?_
  refine lp ?_
  refine rn 1 rfl ?_
  refine ci hF rfl (fun c_2 hF => ?_) (fun c_2 hF => ?_)
  · obtain ⟨v_3, g_4, hF⟩ := bind_some hF
    refine rn 0 rfl ?_
    refine W.o (e_ixA1 rfl rfl (ix_lt g_4) (lrF_get (cI_len .u64) g_4)) ?_
    obtain ⟨r_5, g_6, hF⟩ := bind_some hF
    refine rn 3 rfl ?_
    refine df (d37 v_3 _ g_6) rfl ?_
    refine rn 4 rfl ?_
    exact ih (.p1 (IntKind.wrap .i64 (n + r_5)) t6_ (IntKind.wrap .i64 (t7_ + 1))) _ hF _ _ ⟨rfl, rfl, rfl, trivial⟩ hs
  · refine rn 2 rfl ?_
    cases hF
    exact rD (rlt rl0) rfl
noncomputable def F19 (s : Arr 4 Int) : Option Int :=
 (G19 (.p1 0 s 0))
theorem d19 (s : Arr 4 Int) (r : Int) (hF : F19 s = some r) : DFun Try.prog noG 19 [v24 s] (AV.int .i64 r) := by
 unfold F19 at hF
 refine bD k19 rfl ?_
 have hs : SH [] [] := SH.nil
 generalize ([] : Store) = st at hs ⊢
 refine rn 0 rfl ?_
 refine bx hs (cs := c24 s) rfl rfl fun st b_1 hs => ?_
 refine rn 2 rfl ?_
 refine W.o (lN (s := c24 s) rfl (hs.g 0 rfl) rfl rfl) ?_
 refine rn 1 rfl ?_
 exact w19 (.p1 0 s 0) _ hF _ _ ⟨rfl, rfl, rfl, trivial⟩ (hs.p 1 [] rfl)
/-! ### 20: paddock/sets.Range -/
def C20_10 : ACode := .s (.s (.ops [q 9 (.mv 6), q 10 (.mv 1), q 11 (.cvI .i64 10), q 12 (.binI .leq 9 11)]) (.cond 12 .skip (.exit 0))) (.s (.block 1 (.ops [q 15 (.loadN 4 5), q 16 (.mv 6), q 17 (.cvI .u8 16), qc 18 36 [15, 17], q0 (.store 4 5 18)])) (.ops [q 13 (.mv 6), q 14 (.binI .add 13 (ki 1)), q 6 (.mv 14)]))
def C20_20 : ACode := .s (.ops [q 19 (.loadN 4 5), q0 (.store 4 4 19)]) .ret
def C20_1 : ACode := .s (.ops [q 4 (.alloc [(.int .u64 0), (.int .u64 0), (.int .u64 0), (.int .u64 0)])]) (.s (.ops [q 5 (.alloc [(.int .u64 0), (.int .u64 0), (.int .u64 0), (.int .u64 0)])]) (.s (.s (.ops [q 7 (.mv 0), q 8 (.cvI .i64 7), q 6 (.mv 8)]) (.block 0 (.loop C20_10))) C20_20))
def R20 : List RA := [(.cellN 4 4)]
theorem k20 : compF Try.prog (muL []) 20 = some ⟨20, C20_1, R20⟩ := by kernel_rfl
noncomputable abbrev X20 (r : Arr 4 Int) : Cx := cD Try.prog noG 20 R20 (v24 r)
inductive St20 where
 | p1 (to_ : Int) (c : Int) (t4_ : Arr 4 Int) (s : Arr 4 Int)
noncomputable def G20 : St20 → Option (Arr 4 Int)
 | .p1 to_ c t4_ s =>
  (if (decide (c ≤ (IntKind.wrap .i64 to_))) = true then
   (F36 s (IntKind.wrap .u8 c) >>= fun r_4 =>
    (G20 (.p1 to_ (IntKind.wrap .i64 (c + 1)) t4_ r_4)))
  else
   (some s))
 partial_fixpoint
def M20 (x : St20) (r : Arr 4 Int) : Prop := match x with
 | .p1 to_ c t4_ s => ∀ (tm : Fr) (st : Store) (io0 : Nat) (io1 : Nat), Frm tm [(1, AV.int .u8 to_), (4, .ptr io0 0), (5, .ptr io1 0), (6, AV.int .i64 c)] → SH st [pt io0 (.cells (c24 t4_)), pt io1 (.cells (c24 s))] → W (X20 r) [.lp C20_10, .blk 0, .code C20_20] tm st
theorem w20 : ∀ (x : St20) (r : Arr 4 Int), G20 x = some r → M20 x r := by
 refine G20.partial_correctness M20 ?_
 intro g ih x r hF
 cases x with
 | p1 to_ c t4_ s =>
  dsimp only at hF
  intro tm st io0 io1 hf hs
  refine en hf ?_
  refine lp ?_
  refine rn 4 rfl ?_
  refine ci hF rfl (fun c_3 hF => ?_) (fun c_3 hF => ?_)
  · refine rn 0 rfl ?_
    refine W.o (lN (s := c24 s) rfl (hs.g 1 rfl) rfl rfl) ?_
    obtain ⟨r_4, g_5, hF⟩ := bind_some hF
    refine rn 2 rfl ?_
    refine df (d36 s (IntKind.wrap .u8 c) _ g_5) rfl ?_
    refine sr hs 1 rfl rfl rfl (cs' := c24 r_4) rfl rfl fun st hs => ?_
    refine rn 3 rfl ?_
    exact ih (.p1 to_ (IntKind.wrap .i64 (c + 1)) t4_ r_4) _ hF _ _ io0 io1 ⟨rfl, rfl, rfl, rfl, trivial⟩ hs
  · refine rn 0 rfl ?_
    refine W.o (lN (s := c24 s) rfl (hs.g 1 rfl) rfl rfl) ?_
    refine sr hs 0 rfl rfl rfl (cs' := c24 s) rfl rfl fun st hs => ?_
    refine rn 0 rfl ?_
    cases hF
    exact rD (rl_cellN rfl (hs.g 0 rfl) (LR.whole _ _) (c24_len _) rl0) rfl
noncomputable def F20 (from_ : Int) (to_ : Int) : Option (Arr 4 Int) :=
 (G20 (.p1 to_ (IntKind.wrap .i64 from_) (Arr.rep 4 0) (Arr.rep 4 0)))
theorem d20 (from_ : Int) (to_ : Int) (r : Arr 4 Int) (hF : F20 from_ to_ = some r) : DFun Try.prog noG 20 [AV.int .u8 from_, AV.int .u8 to_] (v24 r) := by
 unfold F20 at hF
 refine bD k20 rfl ?_
 have hs : SH [] [] := SH.nil
 generalize ([] : Store) = st at hs ⊢
 refine rn 0 rfl ?_
 refine al hs (cs := c24 (Arr.rep 4 0)) rfl fun st b_1 hs => ?_
 refine rn 0 rfl ?_
 refine al hs (cs := c24 (Arr.rep 4 0)) rfl fun st b_2 hs => ?_
 refine rn 3 rfl ?_
 exact w20 (.p1 to_ (IntKind.wrap .i64 from_) (Arr.rep 4 0) (Arr.rep 4 0)) _ hF _ _ b_1 b_2 ⟨rfl, rfl, rfl, rfl, trivial⟩ (hs.p 2 [1, 0] rfl)
/-! ### 21: paddock/paddockref07.Range -/
def C21_10 : ACode := .s (.s (.ops [q 9 (.mv 6), q 10 (.mv 1), q 11 (.cvI .i64 10), q 12 (.binI .leq 9 11)]) (.cond 12 .skip (.exit 0))) (.s (.block 1 (.ops [q 15 (.loadN 4 5), q 16 (.mv 6), q 17 (.cvI .u8 16), qc 18 35 [15, 17], q0 (.store 4 5 18)])) (.ops [q 13 (.mv 6), q 14 (.binI .add 13 (ki 1)), q 6 (.mv 14)]))
def C21_20 : ACode := .s (.ops [q 19 (.loadN 4 5), q0 (.store 4 4 19)]) .ret
def C21_1 : ACode := .s (.ops [q 4 (.alloc [(.int .u64 0), (.int .u64 0), (.int .u64 0), (.int .u64 0)])]) (.s (.ops [q 5 (.alloc [(.int .u64 0), (.int .u64 0), (.int .u64 0), (.int .u64 0)])]) (.s (.s (.ops [q 7 (.mv 0), q 8 (.cvI .i64 7), q 6 (.mv 8)]) (.block 0 (.loop C21_10))) C21_20))
def R21 : List RA := [(.cellN 4 4)]
theorem k21 : compF Try.prog (muL []) 21 = some ⟨20, C21_1, R21⟩ := by kernel_rfl
noncomputable abbrev X21 (r : Arr 4 Int) : Cx := cD Try.prog noG 20 R21 (v24 r)
inductive St21 where
 | p1 (to_ : Int) (c : Int) (t4_ : Arr 4 Int) (s : Arr 4 Int)
noncomputable def G21 : St21 → Option (Arr 4 Int)
 | .p1 to_ c t4_ s =>
  (if (decide (c ≤ (IntKind.wrap .i64 to_))) = true then
   (F35 s (IntKind.wrap .u8 c) >>= fun r_4 =>
    (G21 (.p1 to_ (IntKind.wrap .i64 (c + 1)) t4_ r_4)))
  else
   (some s))
 partial_fixpoint
def M21 (x : St21) (r : Arr 4 Int) : Prop := match x with
 | .p1 to_ c t4_ s => ∀ (tm : Fr) (st : Store) (io0 : Nat) (io1 : Nat), Frm tm [(1, AV.int .u8 to_), (4, .ptr io0 0), (5, .ptr io1 0), (6, AV.int .i64 c)] → SH st [pt io0 (.cells (c24 t4_)), pt io1 (.cells (c24 s))] → W (X21 r) [.lp C21_10, .blk 0, .code C21_20] tm st
theorem w21 : ∀ (x : St21) (r : Arr 4 Int), G21 x = some r → M21 x r := by
 refine G21.partial_correctness M21 ?_
 intro g ih x r hF
 cases x with
 | p1 to_ c t4_ s =>
  dsimp only at hF
  intro tm st io0 io1 hf hs
  refine en hf ?_
  refine lp ?_
  refine rn 4 rfl ?_
  refine ci hF rfl (fun c_3 hF => ?_) (fun c_3 hF => ?_)
  · refine rn 0 rfl ?_
    refine W.o (lN (s := c24 s) rfl (hs.g 1 rfl) rfl rfl) ?_
    obtain ⟨r_4, g_5, hF⟩ := bind_some hF
    refine rn 2 rfl ?_
    refine df (d35 s (IntKind.wrap .u8 c) _ g_5) rfl ?_
    refine sr hs 1 rfl rfl rfl (cs' := c24 r_4) rfl rfl fun st hs => ?_
    refine rn 3 rfl ?_
    exact ih (.p1 to_ (IntKind.wrap .i64 (c + 1)) t4_ r_4) _ hF _ _ io0 io1 ⟨rfl, rfl, rfl, rfl, trivial⟩ hs
  · refine rn 0 rfl ?_
    refine W.o (lN (s := c24 s) rfl (hs.g 1 rfl) rfl rfl) ?_
    refine sr hs 0 rfl rfl rfl (cs' := c24 s) rfl rfl fun st hs => ?_
    refine rn 0 rfl ?_
    cases hF
    exact rD (rl_cellN rfl (hs.g 0 rfl) (LR.whole _ _) (c24_len _) rl0) rfl
noncomputable def F21 (from_ : Int) (to_ : Int) : Option (Arr 4 Int) :=
 (G21 (.p1 to_ (IntKind.wrap .i64 from_) (Arr.rep 4 0) (Arr.rep 4 0)))
theorem d21 (from_ : Int) (to_ : Int) (r : Arr 4 Int) (hF : F21 from_ to_ = some r) : DFun Try.prog noG 21 [AV.int .u8 from_, AV.int .u8 to_] (v24 r) := by
 unfold F21 at hF
 refine bD k21 rfl ?_
 have hs : SH [] [] := SH.nil
 generalize ([] : Store) = st at hs ⊢
 refine rn 0 rfl ?_
 refine al hs (cs := c24 (Arr.rep 4 0)) rfl fun st b_1 hs => ?_
 refine rn 0 rfl ?_
 refine al hs (cs := c24 (Arr.rep 4 0)) rfl fun st b_2 hs => ?_
 refine rn 3 rfl ?_
 exact w21 (.p1 to_ (IntKind.wrap .i64 from_) (Arr.rep 4 0) (Arr.rep 4 0)) _ hF _ _ b_1 b_2 ⟨rfl, rfl, rfl, rfl, trivial⟩ (hs.p 2 [1, 0] rfl)
/-! ### 25: paddock/sets.And -/
def C25_8 : ACode := .s (.ops [q 7 (.binI .lss 6 (ki 4))]) (.s (.cond 7 .skip (.exit 0)) (.s (.block 1 (.s (.ops [q 8 (.mv 6), q 5 (.mv 8)]) (.draw [] 0 0 [q 9 (.mv 5), q 10 (.iaddrA 4 1 2 9), q 11 (.load1 10), q 12 (.mv 5), q 13 (.iaddrA 4 1 3 12), q 14 (.load1 13), q 15 (.binI .and 11 14), q 16 (.iaddrA 4 1 2 9)] [q0 (.store 1 16 15)]))) (.ops [q 17 (.binI .add 6 (ki 1)), q 6 (.mv 17)])))
def C25_20 : ACode := .s (.ops [q 18 (.loadN 4 2), q0 (.store 4 4 18)]) .ret
def C25_1 : ACode := .s (.ops [q 2 (.box 4 0), q 3 (.box 4 1), q 4 (.alloc [(.int .u64 0), (.int .u64 0), (.int .u64 0), (.int .u64 0)])]) (.s (.s (.ops [q 6 (.mv (ki 0))]) (.block 0 (.loop C25_8))) C25_20)
def R25 : List RA := [(.cellN 4 4)]
theorem k25 : compF Try.prog (muL []) 25 = some ⟨19, C25_1, R25⟩ := by kernel_rfl
noncomputable abbrev X25 (r : Arr 4 Int) : Cx := cD Try.prog noG 19 R25 (v24 r)
inductive St25 where
 | p1 (t6_ : Int) (a : Arr 4 Int) (b : Arr 4 Int) (t4_ : Arr 4 Int)
noncomputable def G25 : St25 → Option (Arr 4 Int)
 | .p1 t6_ a b t4_ =>
  (if (decide (t6_ < 4)) = true then
   (if 0 ≤ t6_ ∧ t6_ < (4 : Int) then
    (ix a.l t6_ >>= fun v_6 =>
     (if 0 ≤ t6_ ∧ t6_ < (4 : Int) then
      (ix b.l t6_ >>= fun v_9 =>
       (if 0 ≤ t6_ ∧ t6_ < (4 : Int) then
        (G25 (.p1 (IntKind.wrap .i64 (t6_ + 1)) (aset a t6_ (andI .u64 v_6 v_9)) b t4_))
       else none))
     else none))
   else none)
  else
   (some a))
 partial_fixpoint
def M25 (x : St25) (r : Arr 4 Int) : Prop := match x with
 | .p1 t6_ a b t4_ => ∀ (tm : Fr) (st : Store) (io0 : Nat) (io1 : Nat) (io2 : Nat), Frm tm [(2, .ptr io0 0), (3, .ptr io1 0), (4, .ptr io2 0), (6, AV.int .i64 t6_)] → SH st [pt io0 (.cells (c24 a)), pt io1 (.cells (c24 b)), pt io2 (.cells (c24 t4_))] → W (X25 r) [.lp C25_8, .blk 0, .code C25_20] tm st
theorem w25 : ∀ (x : St25) (r : Arr 4 Int), G25 x = some r → M25 x r := by
 refine G25.partial_correctness M25 ?_
 intro g ih x r hF
 cases x with
 | p1 t6_ a b t4_ =>
  dsimp only at hF
  intro tm st io0 io1 io2 hf hs
  refine en hf ?_
  refine lp ?_
  refine rn 1 rfl ?_
  refine ci hF rfl (fun c_4 hF => ?_) (fun c_4 hF => ?_)
  · refine rn 2 rfl ?_
    have h0 := hs
    refine dr0 ?_
    obtain ⟨g_5, hF⟩ := grd_some hF
    refine dn 1 rfl ?_
    refine de rfl (e_iaddrA rfl (h0.g 0 rfl) rfl g_5) ?_
    obtain ⟨v_6, g_7, hF⟩ := bind_some hF
    refine de rfl (e_load1 rfl (h0.g 0 rfl) (LR.comp (LR.whole _ _) (lrF_get (cI_len .u64) g_7))) ?_
    obtain ⟨g_8, hF⟩ := grd_some hF
    refine dn 1 rfl ?_
    refine de rfl (e_iaddrA rfl (h0.g 1 rfl) rfl g_8) ?_
    obtain ⟨v_9, g_10, hF⟩ := bind_some hF
    refine de rfl (e_load1 rfl (h0.g 1 rfl) (LR.comp (LR.whole _ _) (lrF_get (cI_len .u64) g_10))) ?_
    obtain ⟨g_11, hF⟩ := grd_some hF
    refine dn 1 rfl ?_
    refine de rfl (e_iaddrA rfl (h0.g 0 rfl) rfl g_11) ?_
    refine dz ?_
    obtain ⟨y_12, g_13⟩ := ix_in a g_11 rfl
    refine sl hs 0 rfl rfl (LR.comp (LR.whole _ _) (lrF_set (cI_len .u64) g_13 (andI .u64 v_6 v_9))) ((cI_len .u64) _) rfl ((cI_len .u64) _) ((cI_one .u64) _) rfl fun st hs => ?_
    refine rn 2 rfl ?_
    exact ih (.p1 (IntKind.wrap .i64 (t6_ + 1)) (aset a t6_ (andI .u64 v_6 v_9)) b t4_) _ hF _ _ io0 io1 io2 ⟨rfl, rfl, rfl, rfl, trivial⟩ hs
  · refine rn 0 rfl ?_
    refine W.o (lN (s := c24 a) rfl (hs.g 0 rfl) rfl rfl) ?_
    refine sr hs 2 rfl rfl rfl (cs' := c24 a) rfl rfl fun st hs => ?_
    refine rn 0 rfl ?_
    cases hF
    exact rD (rl_cellN rfl (hs.g 2 rfl) (LR.whole _ _) (c24_len _) rl0) rfl
noncomputable def F25 (a : Arr 4 Int) (b : Arr 4 Int) : Option (Arr 4 Int) :=
 (G25 (.p1 0 a b (Arr.rep 4 0)))
theorem d25 (a : Arr 4 Int) (b : Arr 4 Int) (r : Arr 4 Int) (hF : F25 a b = some r) : DFun Try.prog noG 25 [v24 a, v24 b] (v24 r) := by
 unfold F25 at hF
 refine bD k25 rfl ?_
 have hs : SH [] [] := SH.nil
 generalize ([] : Store) = st at hs ⊢
 refine rn 0 rfl ?_
 refine bx hs (cs := c24 a) rfl rfl fun st b_1 hs => ?_
 refine bx hs (cs := c24 b) rfl rfl fun st b_2 hs => ?_
 refine al hs (cs := c24 (Arr.rep 4 0)) rfl fun st b_3 hs => ?_
 refine rn 1 rfl ?_
 exact w25 (.p1 0 a b (Arr.rep 4 0)) _ hF _ _ b_1 b_2 b_3 ⟨rfl, rfl, rfl, rfl, trivial⟩ (hs.p 3 [2, 1, 0] rfl)
/-! ### 26: paddock/paddockref07.And -/
def C26_20 : ACode := .s (.ops [q 15 (.loadN 4 3), q 16 (.mv 7), qc 17 18 [15, 16]]) (.cond 17 (.ops [q 18 (.loadN 4 5), q 19 (.mv 7), qc 20 35 [18, 19], q0 (.store 4 5 20)]) .skip)
def C26_10 : ACode := .s (.ops [q 12 (.binI .lss 11 10)]) (.s (.cond 12 .skip (.exit 0)) (.s (.block 1 (.s (.ops [q 13 (.iaddrL 1 9 11), q 14 (.load1 13), q 7 (.mv 14)]) C26_20)) (.ops [q 21 (.binI .add 11 (ki 1)), q 11 (.mv 21)])))
def C26_26 : ACode := .s (.ops [q 22 (.loadN 4 5), q0 (.store 4 4 22)]) .ret
def C26_1 : ACode := .s (.ops [q 2 (.box 4 0), q 3 (.box 4 1), q 4 (.alloc [(.int .u64 0), (.int .u64 0), (.int .u64 0), (.int .u64 0)])]) (.s (.ops [q 5 (.alloc [(.int .u64 0), (.int .u64 0), (.int .u64 0), (.int .u64 0)])]) (.s (.s (.ops [q 8 (.loadN 4 2), qc 9 16 [8], q 10 (.len 9), q 11 (.mv (ki 0))]) (.block 0 (.loop C26_10))) C26_26))
def R26 : List RA := [(.cellN 4 4)]
theorem k26 : compF Try.prog (muL []) 26 = some ⟨23, C26_1, R26⟩ := by kernel_rfl
noncomputable abbrev X26 (r : Arr 4 Int) : Cx := cD Try.prog noG 23 R26 (v24 r)
inductive St26 where
 | p1 (t9_ : Sl Int) (t10_ : Int) (t11_ : Int) (b : Arr 4 Int) (t4_ : Arr 4 Int) (s : Arr 4 Int)
noncomputable def G26 : St26 → Option (Arr 4 Int)
 | .p1 t9_ t10_ t11_ b t4_ s =>
  (if (decide (t11_ < t10_)) = true then
   (ix (ls t9_) t11_ >>= fun v_8 =>
    (F18 b v_8 >>= fun r_10 =>
     (if r_10 = true then
      (F35 s v_8 >>= fun r_13 =>
       (G26 (.p1 t9_ t10_ (IntKind.wrap .i64 (t11_ + 1)) b t4_ r_13)))
     else
      (G26 (.p1 t9_ t10_ (IntKind.wrap .i64 (t11_ + 1)) b t4_ s)))))
  else
   (some s))
 partial_fixpoint
def M26 (x : St26) (r : Arr 4 Int) : Prop := match x with
 | .p1 t9_ t10_ t11_ b t4_ s => ∀ (tm : Fr) (st : Store) (io0 : Nat) (io1 : Nat) (io2 : Nat), Frm tm [(3, .ptr io0 0), (4, .ptr io1 0), (5, .ptr io2 0), (9, slV 1 (AV.int .u8) t9_), (10, AV.int .i64 t10_), (11, AV.int .i64 t11_)] → SH st [pt io0 (.cells (c24 b)), pt io1 (.cells (c24 t4_)), pt io2 (.cells (c24 s))] → W (X26 r) [.lp C26_10, .blk 0, .code C26_26] tm st
theorem w26 : ∀ (x : St26) (r : Arr 4 Int), G26 x = some r → M26 x r := by
 refine G26.partial_correctness M26 ?_
 intro g ih x r hF
 cases x with
 | p1 t9_ t10_ t11_ b t4_ s =>
  dsimp only at hF
  intro tm st io0 io1 io2 hf hs
  refine en hf ?_
  refine lp ?_
  refine rn 1 rfl ?_
  refine ci hF rfl (fun c_7 hF => ?_) (fun c_7 hF => ?_)
  · obtain ⟨v_8, g_9, hF⟩ := bind_some hF
    refine rn 0 rfl ?_
    refine W.o (e_iaddrL (rd_V rfl) rfl g_9) ?_
    refine W.o (l1D rfl rfl) ?_
    refine rn 1 rfl ?_
    refine W.o (lN (s := c24 b) rfl (hs.g 0 rfl) rfl rfl) ?_
    obtain ⟨r_10, g_11, hF⟩ := bind_some hF
    refine rn 1 rfl ?_
    refine df (d18 b v_8 _ g_11) rfl ?_
    refine rn 0 rfl ?_
    refine ci hF rfl (fun c_12 hF => ?_) (fun c_12 hF => ?_)
    · refine rn 0 rfl ?_
      refine W.o (lN (s := c24 s) rfl (hs.g 2 rfl) rfl rfl) ?_
      obtain ⟨r_13, g_14, hF⟩ := bind_some hF
      refine rn 1 rfl ?_
      refine df (d35 s v_8 _ g_14) rfl ?_
      refine sr hs 2 rfl rfl rfl (cs' := c24 r_13) rfl rfl fun st hs => ?_
      refine rn 2 rfl ?_
      exact ih (.p1 t9_ t10_ (IntKind.wrap .i64 (t11_ + 1)) b t4_ r_13) _ hF _ _ io0 io1 io2 ⟨rfl, rfl, rfl, rfl, rfl, rfl, trivial⟩ hs
    · refine rn 2 rfl ?_
      exact ih (.p1 t9_ t10_ (IntKind.wrap .i64 (t11_ + 1)) b t4_ s) _ hF _ _ io0 io1 io2 ⟨rfl, rfl, rfl, rfl, rfl, rfl, trivial⟩ hs
  · refine rn 0 rfl ?_
    refine W.o (lN (s := c24 s) rfl (hs.g 2 rfl) rfl rfl) ?_
    refine sr hs 1 rfl rfl rfl (cs' := c24 s) rfl rfl fun st hs => ?_
    refine rn 0 rfl ?_
    cases hF
    exact rD (rl_cellN rfl (hs.g 1 rfl) (LR.whole _ _) (c24_len _) rl0) rfl
noncomputable def F26 (a : Arr 4 Int) (b : Arr 4 Int) : Option (Arr 4 Int) :=
 (F16 a >>= fun r_5 =>
  (G26 (.p1 r_5 ((ls r_5).length : Int) 0 b (Arr.rep 4 0) (Arr.rep 4 0))))
theorem d26 (a : Arr 4 Int) (b : Arr 4 Int) (r : Arr 4 Int) (hF : F26 a b = some r) : DFun Try.prog noG 26 [v24 a, v24 b] (v24 r) := by
 unfold F26 at hF
 refine bD k26 rfl ?_
 have hs : SH [] [] := SH.nil
 generalize ([] : Store) = st at hs ⊢
 refine rn 0 rfl ?_
 refine bx hs (cs := c24 a) rfl rfl fun st b_1 hs => ?_
 refine bx hs (cs := c24 b) rfl rfl fun st b_2 hs => ?_
 refine al hs (cs := c24 (Arr.rep 4 0)) rfl fun st b_3 hs => ?_
 refine rn 0 rfl ?_
 refine al hs (cs := c24 (Arr.rep 4 0)) rfl fun st b_4 hs => ?_
 refine rn 0 rfl ?_
 refine W.o (lN (s := c24 a) rfl (hs.g 3 rfl) rfl rfl) ?_
 obtain ⟨r_5, g_6, hF⟩ := bind_some hF
 refine df (d16 a _ g_6) rfl ?_
 refine W.o (e_len (rd_V rfl)) ?_
 refine rn 1 rfl ?_
 exact w26 (.p1 r_5 ((ls r_5).length : Int) 0 b (Arr.rep 4 0) (Arr.rep 4 0)) _ hF _ _ b_2 b_3 b_4 ⟨rfl, rfl, rfl, rfl, rfl, rfl, trivial⟩ (hs.p 4 [2, 1, 0] rfl)
/-! ### 27: paddock/sets.Or -/
def C27_8 : ACode := .s (.ops [q 7 (.binI .lss 6 (ki 4))]) (.s (.cond 7 .skip (.exit 0)) (.s (.block 1 (.s (.ops [q 8 (.mv 6), q 5 (.mv 8)]) (.draw [] 0 0 [q 9 (.mv 5), q 10 (.iaddrA 4 1 2 9), q 11 (.load1 10), q 12 (.mv 5), q 13 (.iaddrA 4 1 3 12), q 14 (.load1 13), q 15 (.binI .or 11 14), q 16 (.iaddrA 4 1 2 9)] [q0 (.store 1 16 15)]))) (.ops [q 17 (.binI .add 6 (ki 1)), q 6 (.mv 17)])))
def C27_20 : ACode := .s (.ops [q 18 (.loadN 4 2), q0 (.store 4 4 18)]) .ret
def C27_1 : ACode := .s (.ops [q 2 (.box 4 0), q 3 (.box 4 1), q 4 (.alloc [(.int .u64 0), (.int .u64 0), (.int .u64 0), (.int .u64 0)])]) (.s (.s (.ops [q 6 (.mv (ki 0))]) (.block 0 (.loop C27_8))) C27_20)
def R27 : List RA := [(.cellN 4 4)]
theorem k27 : compF Try.prog (muL []) 27 = some ⟨19, C27_1, R27⟩ := by kernel_rfl
noncomputable abbrev X27 (r : Arr 4 Int) : Cx := cD Try.prog noG 19 R27 (v24 r)
inductive St27 where
 | p1 (t6_ : Int) (a : Arr 4 Int) (b : Arr 4 Int) (t4_ : Arr 4 Int)
noncomputable def G27 : St27 → Option (Arr 4 Int)
 | .p1 t6_ a b t4_ =>
  (if (decide (t6_ < 4)) = true then
   (if 0 ≤ t6_ ∧ t6_ < (4 : Int) then
    (ix a.l t6_ >>= fun v_6 =>
     (if 0 ≤ t6_ ∧ t6_ < (4 : Int) then
      (ix b.l t6_ >>= fun v_9 =>
       (if 0 ≤ t6_ ∧ t6_ < (4 : Int) then
        (G27 (.p1 (IntKind.wrap .i64 (t6_ + 1)) (aset a t6_ (orI .u64 v_6 v_9)) b t4_))
       else none))
     else none))
   else none)
  else
   (some a))
 partial_fixpoint
def M27 (x : St27) (r : Arr 4 Int) : Prop := match x with
 | .p1 t6_ a b t4_ => ∀ (tm : Fr) (st : Store) (io0 : Nat) (io1 : Nat) (io2 : Nat), Frm tm [(2, .ptr io0 0), (3, .ptr io1 0), (4, .ptr io2 0), (6, AV.int .i64 t6_)] → SH st [pt io0 (.cells (c24 a)), pt io1 (.cells (c24 b)), pt io2 (.cells (c24 t4_))] → W (X27 r) [.lp C27_8, .blk 0, .code C27_20] tm st
theorem w27 : ∀ (x : St27) (r : Arr 4 Int), G27 x = some r → M27 x r := by
 refine G27.partial_correctness M27 ?_
 intro g ih x r hF
 cases x with
 | p1 t6_ a b t4_ =>
  dsimp only at hF
  intro tm st io0 io1 io2 hf hs
  refine en hf ?_
  refine lp ?_
  refine rn 1 rfl ?_
  refine ci hF rfl (fun c_4 hF => ?_) (fun c_4 hF => ?_)
  · refine rn 2 rfl ?_
    have h0 := hs
    refine dr0 ?_
    obtain ⟨g_5, hF⟩ := grd_some hF
    refine dn 1 rfl ?_
    refine de rfl (e_iaddrA rfl (h0.g 0 rfl) rfl g_5) ?_
    obtain ⟨v_6, g_7, hF⟩ := bind_some hF
    refine de rfl (e_load1 rfl (h0.g 0 rfl) (LR.comp (LR.whole _ _) (lrF_get (cI_len .u64) g_7))) ?_
    obtain ⟨g_8, hF⟩ := grd_some hF
    refine dn 1 rfl ?_
    refine de rfl (e_iaddrA rfl (h0.g 1 rfl) rfl g_8) ?_
    obtain ⟨v_9, g_10, hF⟩ := bind_some hF
    refine de rfl (e_load1 rfl (h0.g 1 rfl) (LR.comp (LR.whole _ _) (lrF_get (cI_len .u64) g_10))) ?_
    obtain ⟨g_11, hF⟩ := grd_some hF
    refine dn 1 rfl ?_
    refine de rfl (e_iaddrA rfl (h0.g 0 rfl) rfl g_11) ?_
    refine dz ?_
    obtain ⟨y_12, g_13⟩ := ix_in a g_11 rfl
    refine sl hs 0 rfl rfl (LR.comp (LR.whole _ _) (lrF_set (cI_len .u64) g_13 (orI .u64 v_6 v_9))) ((cI_len .u64) _) rfl ((cI_len .u64) _) ((cI_one .u64) _) rfl fun st hs => ?_
    refine rn 2 rfl ?_
    exact ih (.p1 (IntKind.wrap .i64 (t6_ + 1)) (aset a t6_ (orI .u64 v_6 v_9)) b t4_) _ hF _ _ io0 io1 io2 ⟨rfl, rfl, rfl, rfl, trivial⟩ hs
  · refine rn 0 rfl ?_
    refine W.o (lN (s := c24 a) rfl (hs.g 0 rfl) rfl rfl) ?_
    refine sr hs 2 rfl rfl rfl (cs' := c24 a) rfl rfl fun st hs => ?_
    refine rn 0 rfl ?_
    cases hF
    exact rD (rl_cellN rfl (hs.g 2 rfl) (LR.whole _ _) (c24_len _) rl0) rfl
noncomputable def F27 (a : Arr 4 Int) (b : Arr 4 Int) : Option (Arr 4 Int) :=
 (G27 (.p1 0 a b (Arr.rep 4 0)))
theorem d27 (a : Arr 4 Int) (b : Arr 4 Int) (r : Arr 4 Int) (hF : F27 a b = some r) : DFun Try.prog noG 27 [v24 a, v24 b] (v24 r) := by
 unfold F27 at hF
 refine bD k27 rfl ?_
 have hs : SH [] [] := SH.nil
 generalize ([] : Store) = st at hs ⊢
 refine rn 0 rfl ?_
 refine bx hs (cs := c24 a) rfl rfl fun st b_1 hs => ?_
 refine bx hs (cs := c24 b) rfl rfl fun st b_2 hs => ?_
 refine al hs (cs := c24 (Arr.rep 4 0)) rfl fun st b_3 hs => ?_
 refine rn 1 rfl ?_
 exact w27 (.p1 0 a b (Arr.rep 4 0)) _ hF _ _ b_1 b_2 b_3 ⟨rfl, rfl, rfl, rfl, trivial⟩ (hs.p 3 [2, 1, 0] rfl)
end Go.Proofs.Ytfjdegohjnejkaa
