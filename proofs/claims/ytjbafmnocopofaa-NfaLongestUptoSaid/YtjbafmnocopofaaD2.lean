/-
  Functions of the program's as plain functions.
-/
import Derived.Test.YtjbafmnocopofaaD1
set_option linter.unusedVariables false
set_option maxRecDepth 4000
set_option maxHeartbeats 4000000
namespace Go.Proofs.Ytjbafmnocopofaa
open Go AW
attribute [local irreducible] W WD SH XS XLoop DFun XCall XYield
/-! ### 21: paddock/nfa.Whole -/
def C21_34 : ACode := .s (.ops [q 41 (.iaddrL 1 37 39), q 42 (.load1 41), q 10 (.mv 42)]) (.s (.ops [q 43 (.mv 10), q 44 (.faddr 1 5), q 45 (.load1 44), q 46 (.binI .eql 43 45)]) (.cond 46 (.s (.ops [q 6 (.mv (.c (.bool true))), q 7 (.mv (ki 0))]) .ret) .skip))
def C21_26 : ACode := .s (.ops [q 40 (.binI .lss 39 38)]) (.s (.cond 40 .skip (.exit 0)) (.s (.block 1 C21_34) (.ops [q 47 (.binI .add 39 (ki 1)), q 39 (.mv 47)])))
def C21_44 : ACode := .s (.ops [q 6 (.mv (.c (.bool false))), q 7 (.mv (ki 0))]) .ret
def C21_1 : ACode := .s (.ops [q 3 (.boxD 3 0), q 5 (.boxD 2 2), q 6 (.mv (.c (.bool false))), q 7 (.mv (ki 0))]) (.s (.s (.ops [q 11 (.loadN 3 3), qc 12 32 [11], q 8 (.mv 12)]) (.s (.ops [q 13 (.mv 8), q 14 (.binI .neq 13 (ki 0))]) (.cond 14 (.s (.ops [q 15 (.mv 8), q 6 (.mv (.c (.bool false))), q 7 (.mv 15)]) .ret) .skip))) (.s (.s (.ops [q 16 (.faddr 0 5), q 17 (.load1 16), q 18 (.binI .lss 17 (ki 0)), q 19 (.mv 18), (q 20 (.faddr 1 5)).n 19, (q 21 (.load1 20)).n 19, (q 22 (.faddr 0 5)).n 19, (q 23 (.load1 22)).n 19, (q 24 (.binI .lss 21 23)).n 19, q 25 (.pick 19 (.c (.bool true)) 24), q 26 (.mv 25), (q 27 (.faddr 1 5)).n 26, (q 28 (.load1 27)).n 26, (q 29 (.mv 1)).n 26, (q 30 (.lenS 29)).n 26, (q 31 (.binI .gtr 28 30)).n 26, q 32 (.pick 26 (.c (.bool true)) 31)]) (.cond 32 (.s (.ops [q 6 (.mv (.c (.bool false))), q 7 (.mv (ki 2))]) .ret) .skip)) (.s (.s (.ops [q 33 (.loadN 3 3), q 34 (.mv 1), q 35 (.faddr 0 5), q 36 (.load1 35), qc 37 33 [33, 34, 36], q 38 (.len 37), q 39 (.mv (ki 0))]) (.block 0 (.loop C21_26))) C21_44)))
def R21 : List RA := [(.tmp 6), (.tmp 7)]
theorem k21 : compF Try.prog (muL [3, 5]) 21 = some ⟨48, C21_1, R21⟩ := by kernel_rfl
noncomputable abbrev X21 (r : Bool × Int) : Cx := cD Try.prog noG 48 R21 (AV.tup [AV.bool r.1, AV.int .i64 r.2]) [3, 5]
inductive St21 where
 | p1 (at_ : T56) (t37_ : Sl Int) (t38_ : Int) (t39_ : Int)
noncomputable def G21 : St21 → Option (Bool × Int)
 | .p1 at_ t37_ t38_ t39_ =>
  (if (decide (t39_ < t38_)) = true then
   (ix (ls t37_) t39_ >>= fun v_10 =>
    (if (v_10 == at_.To) = true then
     (some (true, 0))
    else
     (G21 (.p1 at_ t37_ t38_ (IntKind.wrap .i64 (t39_ + 1))))))
  else
   (some (false, 0)))
 partial_fixpoint
def M21 (x : St21) (r : Bool × Int) : Prop := match x with
 | .p1 at_ t37_ t38_ t39_ => ∀ (tm : Fr) (st : Store), Frm tm [(5, .dptr (c56 at_)), (37, slV 1 (AV.int .i64) t37_), (38, AV.int .i64 t38_), (39, AV.int .i64 t39_)] → SH st [] → W (X21 r) [.lp C21_26, .blk 0, .code C21_44] tm st
theorem w21 : ∀ (x : St21) (r : Bool × Int), G21 x = some r → M21 x r := by
 refine G21.partial_correctness (M21) ?_
 intro g ih x r hF
 cases x with
 | p1 at_ t37_ t38_ t39_ =>
  dsimp only at hF
  intro tm st hf hs
  refine en hf ?_
  refine lp ?_
  refine rn 1 rfl ?_
  refine ci hF rfl (fun c_9 hF => ?_) (fun c_9 hF => ?_)
  · obtain ⟨v_10, g_11, hF⟩ := bind_some hF
    refine rn 0 rfl ?_
    refine W.o (e_iaddrL (rd_V rfl) rfl g_11) ?_
    refine W.o (l1D rfl rfl) ?_
    refine rn 2 rfl ?_
    refine W.o (e_faddrD rfl) ?_
    refine W.o (l1D rfl rfl) ?_
    refine rn 1 rfl ?_
    refine ci hF rfl (fun c_12 hF => ?_) (fun c_12 hF => ?_)
    · refine rn 2 rfl ?_
      cases hF
      exact rD (rlt (rlt rl0)) rfl
    · refine rn 2 rfl ?_
      exact ih (.p1 at_ t37_ t38_ (IntKind.wrap .i64 (t39_ + 1))) _ hF _ _ ⟨rfl, rfl, rfl, rfl, trivial⟩ hs
  · refine rn 2 rfl ?_
    cases hF
    exact rD (rlt (rlt rl0)) rfl
noncomputable def F21 (p : T34) (s : Str) (at_ : T56) : Option (Bool × Int) :=
 (F32 p >>= fun r_1 =>
  (if (r_1 != 0) = true then
   (some (false, r_1))
  else
   (if (decide (at_.From < 0)) = true then
    (some (false, 2))
   else
    (if (decide (at_.To < at_.From)) = true then
     (some (false, 2))
    else
     (if (decide (at_.To > ((s).length : Int))) = true then
      (some (false, 2))
     else
      (F33 p s at_.From >>= fun r_7 =>
       (G21 (.p1 at_ r_7 ((ls r_7).length : Int) 0))))))))
theorem d21 (p : T34) (s : Str) (at_ : T56) (r : Bool × Int) (hF : F21 p s at_ = some r) : DFun Try.prog noG 21 [v34 p, AV.str s, v56 at_] (AV.tup [AV.bool r.1, AV.int .i64 r.2]) := by
 unfold F21 at hF
 refine bD k21 rfl ?_
 have hs : SH [] [] := SH.nil
 generalize ([] : Store) = st at hs ⊢
 refine rn 0 rfl ?_
 refine W.o (e_boxD (cs := c34 p) rfl rfl (c34_one _)) ?_
 refine W.o (e_boxD (cs := c56 at_) rfl rfl rfl) ?_
 refine rn 2 rfl ?_
 refine W.o (lND (s := c34 p) rfl rfl rfl) ?_
 obtain ⟨r_1, g_2, hF⟩ := bind_some hF
 refine df (d32 p _ g_2) rfl ?_
 refine rn 3 rfl ?_
 refine ci hF rfl (fun c_3 hF => ?_) (fun c_3 hF => ?_)
 · refine rn 3 rfl ?_
   cases hF
   exact rD (rlt (rlt rl0)) rfl
 · refine rn 0 rfl ?_
   refine W.o (e_faddrD rfl) ?_
   refine W.o (l1D rfl rfl) ?_
   refine rn 2 rfl ?_
   refine bi hF (fun c_4 hF => ?_) (fun c_4 hF => ?_)
   · refine wfx 19 rfl c_4 ?_
     refine rn 13 rfl ?_
     refine ct rfl rfl ?_
     refine rn 2 rfl ?_
     cases hF
     exact rD (rlt (rlt rl0)) rfl
   · refine wfx 19 rfl c_4 ?_
     refine W.on rfl rfl ?_
     refine W.o (e_faddrD rfl) ?_
     refine W.on rfl rfl ?_
     refine W.o (l1D rfl rfl) ?_
     refine W.on rfl rfl ?_
     refine W.o (e_faddrD rfl) ?_
     refine W.on rfl rfl ?_
     refine W.o (l1D rfl rfl) ?_
     refine rn 3 rfl ?_
     refine bi hF (fun c_5 hF => ?_) (fun c_5 hF => ?_)
     · refine wfx 26 rfl c_5 ?_
       refine rn 6 rfl ?_
       refine ct rfl rfl ?_
       refine rn 2 rfl ?_
       cases hF
       exact rD (rlt (rlt rl0)) rfl
     · refine wfx 26 rfl c_5 ?_
       refine W.on rfl rfl ?_
       refine W.o (e_faddrD rfl) ?_
       refine W.on rfl rfl ?_
       refine W.o (l1D rfl rfl) ?_
       refine rn 4 rfl ?_
       refine ci hF rfl (fun c_6 hF => ?_) (fun c_6 hF => ?_)
       · refine rn 2 rfl ?_
         cases hF
         exact rD (rlt (rlt rl0)) rfl
       · refine rn 0 rfl ?_
         refine W.o (lND (s := c34 p) rfl rfl rfl) ?_
         refine rn 1 rfl ?_
         refine W.o (e_faddrD rfl) ?_
         refine W.o (l1D rfl rfl) ?_
         obtain ⟨r_7, g_8, hF⟩ := bind_some hF
         refine df (d33 p s at_.From _ g_8) rfl ?_
         refine W.o (e_len (rd_V rfl)) ?_
         refine rn 1 rfl ?_
         exact w21 (.p1 at_ r_7 ((ls r_7).length : Int) 0) _ hF _ _ ⟨rfl, rfl, rfl, rfl, trivial⟩ hs
/-! ### 23: paddock/nfa.Match -/
def C23_17 : ACode := .s (.ops [q 26 (.build [(.int .i64 0), (.int .i64 0)] []), q0 (.store 2 6 26), q 7 (.mv (.c (.bool false))), q 8 (.mv (ki 2))]) .ret
def C23_36 : ACode := .s (.ops [q 38 (.mv 11), q 39 (.len 38), q 40 (.binI .gtr 39 (ki 0))]) (.cond 40 (.s (.ops [q 41 (.mv 10), q 42 (.mv 11), q 43 (.mv 11), q 44 (.len 43), q 45 (.binI .sub 44 (ki 1)), q 46 (.iaddrL 1 42 45), q 47 (.load1 46), q 48 (.build [(.int .i64 0), (.int .i64 0)] [(0, (1, 41)), (1, (1, 47))]), q0 (.store 2 6 48), q 7 (.mv (.c (.bool true))), q 8 (.mv (ki 0))]) .ret) .skip)
def C23_26 : ACode := .s (.s (.ops [q 28 (.mv 10), q 29 (.mv 1), q 30 (.lenS 29), q 31 (.binI .leq 28 30)]) (.cond 31 .skip (.exit 0))) (.s (.block 1 (.s (.ops [q 34 (.loadN 3 3), q 35 (.mv 1), q 36 (.mv 10), qc 37 33 [34, 35, 36], q 11 (.mv 37)]) C23_36)) (.ops [q 32 (.mv 10), q 33 (.binI .add 32 (ki 1)), q 10 (.mv 33)]))
def C23_44 : ACode := .s (.ops [q 49 (.build [(.int .i64 0), (.int .i64 0)] []), q0 (.store 2 6 49), q 7 (.mv (.c (.bool false))), q 8 (.mv (ki 0))]) .ret
def C23_21 : ACode := .s (.s (.ops [q 27 (.mv 2), q 10 (.mv 27)]) (.block 0 (.loop C23_26))) C23_44
def C23_1 : ACode := .s (.ops [q 3 (.boxD 3 0), q 6 (.alloc [(.int .i64 0), (.int .i64 0)]), q 7 (.mv (.c (.bool false))), q 8 (.mv (ki 0))]) (.s (.s (.ops [q 12 (.loadN 3 3), qc 13 32 [12], q 9 (.mv 13)]) (.s (.ops [q 14 (.mv 9), q 15 (.binI .neq 14 (ki 0))]) (.cond 15 (.s (.ops [q 16 (.build [(.int .i64 0), (.int .i64 0)] []), q 17 (.mv 9), q0 (.store 2 6 16), q 7 (.mv (.c (.bool false))), q 8 (.mv 17)]) .ret) .skip))) (.s (.s (.ops [q 18 (.mv 2), q 19 (.binI .lss 18 (ki 0)), q 20 (.mv 19), (q 21 (.mv 2)).n 20, (q 22 (.mv 1)).n 20, (q 23 (.lenS 22)).n 20, (q 24 (.binI .gtr 21 23)).n 20, q 25 (.pick 20 (.c (.bool true)) 24)]) (.cond 25 C23_17 .skip)) C23_21))
def R23 : List RA := [(.cellN 6 2), (.tmp 7), (.tmp 8)]
theorem k23 : compF Try.prog (muL [3]) 23 = some ⟨50, C23_1, R23⟩ := by kernel_rfl
noncomputable abbrev X23 (r : T56 × Bool × Int) : Cx := cD Try.prog noG 50 R23 (AV.tup [v56 r.1, AV.bool r.2.1, AV.int .i64 r.2.2]) [3]
inductive St23 where
 | p1 (t6_ : T56)
 | p2 (s : Str) (p : T34) (i : Int) (t6_ : T56)
noncomputable def G23 : St23 → Option (T56 × Bool × Int)
 | .p1 t6_ =>
  (some (({ From := 0, To := 0 } : T56), false, 2))
 | .p2 s p i t6_ =>
  (if (decide (i ≤ ((s).length : Int))) = true then
   (F33 p s i >>= fun r_8 =>
    (if (decide (((ls r_8).length : Int) > 0)) = true then
     (ix (ls r_8) (IntKind.wrap .i64 (((ls r_8).length : Int) - 1)) >>= fun v_11 =>
      (some (({ From := i, To := v_11 } : T56), true, 0)))
    else
     (G23 (.p2 s p (IntKind.wrap .i64 (i + 1)) t6_))))
  else
   (some (({ From := 0, To := 0 } : T56), false, 0)))
 partial_fixpoint
def M23 (x : St23) (r : T56 × Bool × Int) : Prop := match x with
 | .p1 t6_ => ∀ (tm : Fr) (st : Store) (io0 : Nat), Frm tm [(6, .ptr io0 0)] → SH st [pt io0 (.cells (c56 t6_))] → W (X23 r) [.code C23_17, .code C23_21] tm st
 | .p2 s p i t6_ => ∀ (tm : Fr) (st : Store) (io0 : Nat), Frm tm [(1, AV.str s), (3, .dptr (c34 p)), (6, .ptr io0 0), (10, AV.int .i64 i)] → SH st [pt io0 (.cells (c56 t6_))] → W (X23 r) [.lp C23_26, .blk 0, .code C23_44] tm st
theorem w23 : ∀ (x : St23) (r : T56 × Bool × Int), G23 x = some r → M23 x r := by
 refine G23.partial_correctness (M23) ?_
 intro g ih x r hF
 cases x with
 | p1 t6_ =>
  dsimp only at hF
  intro tm st io0 hf hs
  refine en hf ?_
  refine rn 0 rfl ?_
  refine W.o (bR (cs := c56 ({ From := 0, To := 0 } : T56)) rfl rfl) ?_
  refine sr hs 0 rfl rfl rfl (cs' := c56 ({ From := 0, To := 0 } : T56)) rfl rfl fun st hs => ?_
  refine rn 2 rfl ?_
  cases hF
  exact rD (rl_cellN rfl (hs.g 0 rfl) (LR.whole _ _) (c56_len _) (rlt (rlt rl0))) rfl
 | p2 s p i t6_ =>
  dsimp only at hF
  intro tm st io0 hf hs
  refine en hf ?_
  refine lp ?_
  refine rn 4 rfl ?_
  refine ci hF rfl (fun c_7 hF => ?_) (fun c_7 hF => ?_)
  · refine rn 0 rfl ?_
    refine W.o (lND (s := c34 p) rfl rfl rfl) ?_
    obtain ⟨r_8, g_9, hF⟩ := bind_some hF
    refine rn 2 rfl ?_
    refine df (d33 p s i _ g_9) rfl ?_
    refine rn 2 rfl ?_
    refine W.o (e_len (rd_V rfl)) ?_
    refine rn 1 rfl ?_
    refine ci hF rfl (fun c_10 hF => ?_) (fun c_10 hF => ?_)
    · refine rn 3 rfl ?_
      refine W.o (e_len (rd_V rfl)) ?_
      obtain ⟨v_11, g_12, hF⟩ := bind_some hF
      refine rn 1 rfl ?_
      refine W.o (e_iaddrL (rd_V rfl) rfl g_12) ?_
      refine W.o (l1D rfl rfl) ?_
      refine W.o (bR (cs := c56 ({ From := i, To := v_11 } : T56)) rfl rfl) ?_
      refine sr hs 0 rfl rfl rfl (cs' := c56 ({ From := i, To := v_11 } : T56)) rfl rfl fun st hs => ?_
      refine rn 2 rfl ?_
      cases hF
      exact rD (rl_cellN rfl (hs.g 0 rfl) (LR.whole _ _) (c56_len _) (rlt (rlt rl0))) rfl
    · refine rn 3 rfl ?_
      exact ih (.p2 s p (IntKind.wrap .i64 (i + 1)) t6_) _ hF _ _ io0 ⟨rfl, rfl, rfl, rfl, trivial⟩ hs
  · refine rn 0 rfl ?_
    refine W.o (bR (cs := c56 ({ From := 0, To := 0 } : T56)) rfl rfl) ?_
    refine sr hs 0 rfl rfl rfl (cs' := c56 ({ From := 0, To := 0 } : T56)) rfl rfl fun st hs => ?_
    refine rn 2 rfl ?_
    cases hF
    exact rD (rl_cellN rfl (hs.g 0 rfl) (LR.whole _ _) (c56_len _) (rlt (rlt rl0))) rfl
noncomputable def F23 (p : T34) (s : Str) (from_ : Int) : Option (T56 × Bool × Int) :=
 (F32 p >>= fun r_2 =>
  (if (r_2 != 0) = true then
   (some (({ From := 0, To := 0 } : T56), false, r_2))
  else
   (if (decide (from_ < 0)) = true then
    (G23 (.p1 ({ From := 0, To := 0 } : T56)))
   else
    (if (decide (from_ > ((s).length : Int))) = true then
     (G23 (.p1 ({ From := 0, To := 0 } : T56)))
    else
     (G23 (.p2 s p from_ ({ From := 0, To := 0 } : T56)))))))
theorem d23 (p : T34) (s : Str) (from_ : Int) (r : T56 × Bool × Int) (hF : F23 p s from_ = some r) : DFun Try.prog noG 23 [v34 p, AV.str s, AV.int .i64 from_] (AV.tup [v56 r.1, AV.bool r.2.1, AV.int .i64 r.2.2]) := by
 unfold F23 at hF
 refine bD k23 rfl ?_
 have hs : SH [] [] := SH.nil
 generalize ([] : Store) = st at hs ⊢
 refine rn 0 rfl ?_
 refine W.o (e_boxD (cs := c34 p) rfl rfl (c34_one _)) ?_
 refine al hs (cs := c56 ({ From := 0, To := 0 } : T56)) rfl fun st b_1 hs => ?_
 refine rn 2 rfl ?_
 refine W.o (lND (s := c34 p) rfl rfl rfl) ?_
 obtain ⟨r_2, g_3, hF⟩ := bind_some hF
 refine df (d32 p _ g_3) rfl ?_
 refine rn 3 rfl ?_
 refine ci hF rfl (fun c_4 hF => ?_) (fun c_4 hF => ?_)
 · refine rn 0 rfl ?_
   refine W.o (bR (cs := c56 ({ From := 0, To := 0 } : T56)) rfl rfl) ?_
   refine rn 1 rfl ?_
   refine sr hs 0 rfl rfl rfl (cs' := c56 ({ From := 0, To := 0 } : T56)) rfl rfl fun st hs => ?_
   refine rn 2 rfl ?_
   cases hF
   exact rD (rl_cellN rfl (hs.g 0 rfl) (LR.whole _ _) (c56_len _) (rlt (rlt rl0))) rfl
 · refine rn 3 rfl ?_
   refine bi hF (fun c_5 hF => ?_) (fun c_5 hF => ?_)
   · refine wfx 20 rfl c_5 ?_
     refine rn 5 rfl ?_
     refine ct rfl rfl ?_
     exact w23 (.p1 ({ From := 0, To := 0 } : T56)) _ hF _ _ b_1 ⟨rfl, trivial⟩ hs
   · refine wfx 20 rfl c_5 ?_
     refine rn 5 rfl ?_
     refine ci hF rfl (fun c_6 hF => ?_) (fun c_6 hF => ?_)
     · exact w23 (.p1 ({ From := 0, To := 0 } : T56)) _ hF _ _ b_1 ⟨rfl, trivial⟩ hs
     · refine rn 2 rfl ?_
       exact w23 (.p2 s p from_ ({ From := 0, To := 0 } : T56)) _ hF _ _ b_1 ⟨rfl, rfl, rfl, rfl, trivial⟩ hs
/-! ### 13: paddock/paddockref09.Groups -/
def C13_24 : ACode := .s (.ops [q 14 (.iaddrL 9 10 12), q 15 (.loadN 9 14), q 5 (.alloc [(.int .u8 0), (.int .u64 0), (.int .u64 0), (.int .u64 0), (.int .u64 0), (.int .i64 0), (.int .i64 0), (.int .i64 0), .nils]), q0 (.store 9 5 15)]) (.ops [q 16 (.mv 3), q 17 (.loadN 9 5), qc 18 13 [17], q 19 (.binI .add 16 18), q 3 (.mv 19)])
def C13_16 : ACode := .s (.ops [q 13 (.binI .lss 12 11)]) (.s (.cond 13 .skip (.exit 0)) (.s (.block 1 C13_24) (.ops [q 20 (.binI .add 12 (ki 1)), q 12 (.mv 20)])))
def C13_28 : ACode := .s (.ops [q 21 (.mv 3), q 2 (.mv 21)]) .ret
def C13_11 : ACode := .s (.s (.ops [q 9 (.faddr 8 1), q 10 (.load1 9), q 11 (.len 10), q 12 (.mv (ki 0))]) (.block 0 (.loop C13_16))) C13_28
def C13_1 : ACode := .s (.ops [q 1 (.boxD 9 0), q 2 (.mv (ki 0))]) (.s (.ops [q 3 (.mv (ki 0))]) (.s (.s (.ops [q 6 (.faddr 0 1), q 7 (.load1 6), q 8 (.binI .eql 7 (ku 6))]) (.cond 8 (.ops [q 3 (.mv (ki 1))]) .skip)) C13_11))
def R13 : List RA := [(.tmp 2)]
theorem k13 : compF Try.prog (muL [1]) 13 = some ⟨22, C13_1, R13⟩ := by kernel_rfl
noncomputable abbrev X13 (r : Int) : Cx := cD Try.prog noG 22 R13 (AV.int .i64 r) [1]
inductive St13 where
 | e (n : T27)
 | p1 (n : T27) (sum : Int)
 | p2 (sum : Int) (t10_ : Sl T27) (t11_ : Int) (t12_ : Int)
noncomputable def G13 : St13 → Option Int
 | .e n =>
  (if (n.Kind == 6) = true then
   (G13 (.p1 n 1))
  else
   (G13 (.p1 n 0)))
 | .p1 n sum =>
  (G13 (.p2 sum n.Kids ((ls n.Kids).length : Int) 0))
 | .p2 sum t10_ t11_ t12_ =>
  (if (decide (t12_ < t11_)) = true then
   (ix (ls t10_) t12_ >>= fun v_3 =>
    (G13 (.e v_3) >>= fun r_6 =>
     (G13 (.p2 (IntKind.wrap .i64 (sum + r_6)) t10_ t11_ (IntKind.wrap .i64 (t12_ + 1))))))
  else
   (some sum))
 partial_fixpoint
def M13 (x : St13) (r : Int) : Prop := match x with
 | .e n => DFun Try.prog noG 13 [v27 n] (AV.int .i64 r)
 | .p1 n sum => ∀ (tm : Fr) (st : Store), Frm tm [(1, .dptr (c27 n)), (3, AV.int .i64 sum)] → SH st [] → W (X13 r) [.code C13_11] tm st
 | .p2 sum t10_ t11_ t12_ => ∀ (tm : Fr) (st : Store), Frm tm [(3, AV.int .i64 sum), (10, slV 9 v27 t10_), (11, AV.int .i64 t11_), (12, AV.int .i64 t12_)] → SH st [] → W (X13 r) [.lp C13_16, .blk 0, .code C13_28] tm st
theorem w13 : ∀ (x : St13) (r : Int), G13 x = some r → M13 x r := by
 refine G13.partial_correctness (M13) ?_
 intro g ih x r hF
 cases x with
 | e n =>
  dsimp only at hF
  refine bD k13 rfl ?_
  have hs : SH [] [] := SH.nil
  generalize ([] : Store) = st at hs ⊢
  refine rn 0 rfl ?_
  refine W.o (e_boxD (cs := c27 n) rfl (by rw [c27_len]; rfl) (c27_one _)) ?_
  refine rn 2 rfl ?_
  refine W.o (e_faddrD rfl) ?_
  refine W.o (e_load1D rfl (DP.fld (DP.refl _) (lrg27_Kind n))) ?_
  refine rn 1 rfl ?_
  refine ci hF rfl (fun c_1 hF => ?_) (fun c_1 hF => ?_)
  · refine rj 1 1 rfl ?_
    exact ih (.p1 n 1) _ hF _ _ ⟨rfl, rfl, trivial⟩ hs
  · refine rj 0 1 rfl ?_
    exact ih (.p1 n 0) _ hF _ _ ⟨rfl, rfl, trivial⟩ hs
 | p1 n sum =>
  dsimp only at hF
  intro tm st hf hs
  refine en hf ?_
  refine rn 0 rfl ?_
  refine W.o (e_faddrD rfl) ?_
  refine W.o (e_load1D rfl (DP.fld (DP.refl _) (lrg27_Kids n))) ?_
  refine W.o (e_len (rd_V rfl)) ?_
  refine rn 1 rfl ?_
  exact ih (.p2 sum n.Kids ((ls n.Kids).length : Int) 0) _ hF _ _ ⟨rfl, rfl, rfl, rfl, trivial⟩ hs
 | p2 sum t10_ t11_ t12_ =>
  dsimp only at hF
  intro tm st hf hs
  refine en hf ?_
  refine lp ?_
  refine rn 1 rfl ?_
  refine ci hF rfl (fun c_2 hF => ?_) (fun c_2 hF => ?_)
  · obtain ⟨v_3, g_4, hF⟩ := bind_some hF
    refine rn 0 rfl ?_
    refine W.o (e_iaddrL (rd_V rfl) rfl g_4) ?_
    refine W.o (e_loadND rfl (DP.refl _) (c27_len _)) ?_
    refine al hs (cs := c27 ({ Kind := 0, Set := (Arr.rep 4 0), Min := 0, Max := 0, Group := 0, Kids := none } : T27)) rfl fun st b_5 hs => ?_
    refine sl hs 0 rfl rfl (LR.whole _ _) (c27_len _) rfl (c27_len _) (c27_one _) rfl fun st hs => ?_
    refine rn 1 rfl ?_
    refine W.o (e_loadN rfl (hs.g 0 rfl) (LR.whole _ _) (c27_len _)) ?_
    obtain ⟨r_6, g_7, hF⟩ := bind_some hF
    refine df (ih (.e v_3) _ g_7) rfl ?_
    refine rn 4 rfl ?_
    exact ih (.p2 (IntKind.wrap .i64 (sum + r_6)) t10_ t11_ (IntKind.wrap .i64 (t12_ + 1))) _ hF _ _ ⟨rfl, rfl, rfl, rfl, trivial⟩ (hs.p 1 [] rfl)
  · refine rn 2 rfl ?_
    cases hF
    exact rD (rlt rl0) rfl
noncomputable def F13 (n : T27) : Option Int := G13 (.e n)
theorem d13 (n : T27) (r : Int) (hF : F13 n = some r) : DFun Try.prog noG 13 [v27 n] (AV.int .i64 r) := by
 exact w13 (.e n) r hF
/-! ### 14: paddock/paddocklaw10.run -/
def C14_1 : ACode := .s (.ops [q 3 (.boxD 9 0), q 6 (.mv (.c .nils)), q 7 (.mv (.c (.bool false)))]) (.s (.ops [q 12 (.loadN 9 3), qc 13 10 [12], q 11 (.mv 13), q 14 (.extract 11 0), q 15 (.extract 11 1), q 8 (.alloc [(.int .i64 0), (.int .i64 0), .nils]), q0 (.store 3 8 14), q 9 (.mv 15)]) (.s (.s (.ops [q 16 (.mv 9), q 17 (.binI .neq 16 (ki 0))]) (.cond 17 (.s (.ops [q 6 (.mv (.c .nils)), q 7 (.mv (.c (.bool false)))]) .ret) .skip)) (.s (.ops [q 19 (.loadN 3 8), q 20 (.mv 1), q 21 (.mv 2), qc 22 17 [19, 20, 21], q 18 (.mv 22), q 23 (.extract 18 0), q 24 (.extract 18 1), q 10 (.mv 23), q 9 (.mv 24)]) (.s (.ops [q 25 (.mv 10), q 26 (.mv 9), q 27 (.binI .eql 26 (ki 0)), q 6 (.mv 25), q 7 (.mv 27)]) .ret))))
def R14 : List RA := [(.tmp 6), (.tmp 7)]
theorem k14 : compF Try.prog (muL [3]) 14 = some ⟨28, C14_1, R14⟩ := by kernel_rfl
noncomputable abbrev X14 (r : Sl Int × Bool) : Cx := cD Try.prog noG 28 R14 (AV.tup [slV 1 (AV.int .i64) r.1, AV.bool r.2]) [3]
noncomputable def F14 (n : T27) (s : Str) (from_ : Int) : Option (Sl Int × Bool) :=
 (F10 n >>= fun r_1 =>
  (if (r_1.2 != 0) = true then
   (some (none, false))
  else
   (F17 r_1.1 s from_ >>= fun r_5 =>
    (some (r_5.1, (r_5.2 == 0))))))
theorem d14 (n : T27) (s : Str) (from_ : Int) (r : Sl Int × Bool) (hF : F14 n s from_ = some r) : DFun Try.prog noG 14 [v27 n, AV.str s, AV.int .i64 from_] (AV.tup [slV 1 (AV.int .i64) r.1, AV.bool r.2]) := by
 unfold F14 at hF
 refine bD k14 rfl ?_
 have hs : SH [] [] := SH.nil
 generalize ([] : Store) = st at hs ⊢
 refine rn 0 rfl ?_
 refine W.o (e_boxD (cs := c27 n) rfl (by rw [c27_len]; rfl) (c27_one _)) ?_
 refine rn 2 rfl ?_
 refine W.o (e_loadND rfl (DP.refl _) (c27_len _)) ?_
 obtain ⟨r_1, g_2, hF⟩ := bind_some hF
 refine df (d10 n _ g_2) rfl ?_
 refine rn 3 rfl ?_
 refine al hs (cs := c34 ({ Groups := 0, Slots := 0, Code := none } : T34)) rfl fun st b_3 hs => ?_
 refine sl hs 0 rfl rfl (LR.whole _ _) (c34_len _) rfl (c34_len _) (c34_one _) rfl fun st hs => ?_
 refine rn 3 rfl ?_
 refine ci hF rfl (fun c_4 hF => ?_) (fun c_4 hF => ?_)
 · refine rn 2 rfl ?_
   cases hF
   exact rD (rlt (rlt rl0)) rfl
 · refine rn 0 rfl ?_
   refine W.o (lN (s := c34 r_1.1) rfl (hs.g 0 rfl) rfl rfl) ?_
   obtain ⟨r_5, g_6, hF⟩ := bind_some hF
   refine rn 2 rfl ?_
   refine df (d17 r_1.1 s from_ _ g_6) rfl ?_
   refine rn 10 rfl ?_
   cases hF
   exact rD (rlt (rlt rl0)) rfl
/-! ### 15: paddock/paddockref10.Ints -/
def C15_27 : ACode := .s (.ops [q 4 (.mv (.c (.bool false)))]) .ret
def C15_16 : ACode := .s (.s (.ops [q 11 (.mv 5), q 12 (.mv 0), q 13 (.len 12), q 14 (.binI .lss 11 13)]) (.cond 14 .skip (.exit 0))) (.s (.block 1 (.s (.draw [] 0 0 [q 17 (.mv 0), q 18 (.mv 5), q 19 (.iaddrL 1 17 18), q 20 (.load1 19), q 21 (.mv 1), q 22 (.mv 5), q 23 (.iaddrL 1 21 22), q 24 (.load1 23), q 25 (.binI .neq 20 24)] []) (.cond 25 C15_27 .skip))) (.ops [q 15 (.mv 5), q 16 (.binI .add 15 (ki 1)), q 5 (.mv 16)]))
def C15_32 : ACode := .s (.ops [q 4 (.mv (.c (.bool true)))]) .ret
def C15_1 : ACode := .s (.ops [q 4 (.mv (.c (.bool false)))]) (.s (.s (.ops [q 6 (.mv 0), q 7 (.len 6), q 8 (.mv 1), q 9 (.len 8), q 10 (.binI .neq 7 9)]) (.cond 10 (.s (.ops [q 4 (.mv (.c (.bool false)))]) .ret) .skip)) (.s (.s (.ops [q 5 (.mv (ki 0))]) (.block 0 (.loop C15_16))) C15_32))
def R15 : List RA := [(.tmp 4)]
theorem k15 : compF Try.prog (muL []) 15 = some ⟨26, C15_1, R15⟩ := by kernel_rfl
noncomputable abbrev X15 (r : Bool) : Cx := cD Try.prog noG 26 R15 (AV.bool r)
inductive St15 where
 | p1 (a : Sl Int) (b : Sl Int) (i : Int)
noncomputable def G15 : St15 → Option Bool
 | .p1 a b i =>
  (if (decide (i < ((ls a).length : Int))) = true then
   (ix (ls a) i >>= fun v_3 =>
    (ix (ls b) i >>= fun v_5 =>
     (if (v_3 != v_5) = true then
      (some false)
     else
      (G15 (.p1 a b (IntKind.wrap .i64 (i + 1)))))))
  else
   (some true))
 partial_fixpoint
def M15 (x : St15) (r : Bool) : Prop := match x with
 | .p1 a b i => ∀ (tm : Fr) (st : Store), Frm tm [(0, slV 1 (AV.int .i64) a), (1, slV 1 (AV.int .i64) b), (5, AV.int .i64 i)] → SH st [] → W (X15 r) [.lp C15_16, .blk 0, .code C15_32] tm st
theorem w15 : ∀ (x : St15) (r : Bool), G15 x = some r → M15 x r := by
 refine G15.partial_correctness (M15) ?_
 intro g ih x r hF
 cases x with
 | p1 a b i =>
  dsimp only at hF
  intro tm st hf hs
  refine en hf ?_
  refine lp ?_
  refine rn 2 rfl ?_
  refine W.o (e_len (rd_V rfl)) ?_
  refine rn 1 rfl ?_
  refine ci hF rfl (fun c_2 hF => ?_) (fun c_2 hF => ?_)
  · refine rn 0 rfl ?_
    have h0 := hs
    refine dr0 ?_
    obtain ⟨v_3, g_4, hF⟩ := bind_some hF
    refine dn 2 rfl ?_
    refine de rfl (e_iaddrL (rd_V rfl) rfl g_4) ?_
    refine de rfl (l1D rfl rfl) ?_
    obtain ⟨v_5, g_6, hF⟩ := bind_some hF
    refine dn 2 rfl ?_
    refine de rfl (e_iaddrL (rd_V rfl) rfl g_6) ?_
    refine de rfl (l1D rfl rfl) ?_
    refine dn 1 rfl ?_
    refine dz ?_
    refine rn 0 rfl ?_
    refine ci hF rfl (fun c_7 hF => ?_) (fun c_7 hF => ?_)
    · refine rn 1 rfl ?_
      cases hF
      exact rD (rlt rl0) rfl
    · refine rn 3 rfl ?_
      exact ih (.p1 a b (IntKind.wrap .i64 (i + 1))) _ hF _ _ ⟨rfl, rfl, rfl, trivial⟩ hs
  · refine rn 1 rfl ?_
    cases hF
    exact rD (rlt rl0) rfl
noncomputable def F15 (a : Sl Int) (b : Sl Int) : Option Bool :=
 (if (((ls a).length : Int) != ((ls b).length : Int)) = true then
  (some false)
 else
  (G15 (.p1 a b 0)))
theorem d15 (a : Sl Int) (b : Sl Int) (r : Bool) (hF : F15 a b = some r) : DFun Try.prog noG 15 [slV 1 (AV.int .i64) a, slV 1 (AV.int .i64) b] (AV.bool r) := by
 unfold F15 at hF
 refine bD k15 rfl ?_
 have hs : SH [] [] := SH.nil
 generalize ([] : Store) = st at hs ⊢
 refine rn 2 rfl ?_
 refine W.o (e_len (rd_V rfl)) ?_
 refine rn 1 rfl ?_
 refine W.o (e_len (rd_V rfl)) ?_
 refine rn 1 rfl ?_
 refine ci hF rfl (fun c_1 hF => ?_) (fun c_1 hF => ?_)
 · refine rn 1 rfl ?_
   cases hF
   exact rD (rlt rl0) rfl
 · refine rn 1 rfl ?_
   exact w15 (.p1 a b 0) _ hF _ _ ⟨rfl, rfl, rfl, trivial⟩ hs
/-! ### 16: paddock/paddockref10.Copy -/
def C16_10 : ACode := .s (.s (.ops [q 10 (.mv 4), q 11 (.faddr 2 1), q 12 (.load1 11), q 13 (.len 12), q 14 (.binI .lss 10 13)]) (.cond 14 .skip (.exit 0))) (.s (.block 1 (.draw [] 0 1 [q 17 (.faddr 2 3), q 18 (.load1 17), q 19 (.faddr 2 1), q 20 (.load1 19), q 21 (.mv 4), q 22 (.iaddrL 9 20 21), q 23 (.loadN 9 22), q 24 (.bslice 9 1 true [(.int .u8 0), (.int .u64 0), (.int .u64 0), (.int .u64 0), (.int .u64 0), (.int .i64 0), (.int .i64 0), (.int .i64 0), (.int .i64 0)] [(0, (9, 23))] false)] [q 25 (.app 9 72 18 24), q 26 (.faddr 2 3), q0 (.store 1 26 25)])) (.ops [q 15 (.mv 4), q 16 (.binI .add 15 (ki 1)), q 4 (.mv 16)]))
def C16_20 : ACode := .s (.ops [q 27 (.loadN 3 3), q0 (.store 3 2 27)]) .ret
def C16_1 : ACode := .s (.ops [q 1 (.boxD 3 0), q 2 (.alloc [(.int .i64 0), (.int .i64 0), .nils])]) (.s (.ops [q 5 (.faddr 0 1), q 6 (.load1 5), q 7 (.faddr 1 1), q 8 (.load1 7), q 9 (.build [(.int .i64 0), (.int .i64 0), .nils] [(0, (1, 6)), (1, (1, 8))]), q 3 (.alloc [(.int .i64 0), (.int .i64 0), .nils]), q0 (.store 3 3 9)]) (.s (.s (.ops [q 4 (.mv (ki 0))]) (.block 0 (.loop C16_10))) C16_20))
def R16 : List RA := [(.cellN 2 3)]
theorem k16 : compF Try.prog (muL [1]) 16 = some ⟨28, C16_1, R16⟩ := by kernel_rfl
noncomputable abbrev X16 (r : T34) : Cx := cD Try.prog noG 28 R16 (v34 r) [1]
inductive St16 where
 | p1 (p : T34) (i : Int) (t2_ : T34) (out : T34)
noncomputable def G16 : St16 → Option T34
 | .p1 p i t2_ out =>
  (if (decide (i < ((ls p.Code).length : Int))) = true then
   (ix (ls p.Code) i >>= fun v_8 =>
    (if ((ls out.Code).length + (ls (some ([v_8] : List T52))).length) * 72 ≤ 140737488355328 then
     (G16 (.p1 p (IntKind.wrap .i64 (i + 1)) t2_ ({ out with Code := sapp out.Code (ls (some ([v_8] : List T52))) } : T34)))
    else none))
  else
   (some out))
 partial_fixpoint
def M16 (x : St16) (r : T34) : Prop := match x with
 | .p1 p i t2_ out => ∀ (tm : Fr) (st : Store) (io0 : Nat) (io1 : Nat), Frm tm [(1, .dptr (c34 p)), (2, .ptr io0 0), (3, .ptr io1 0), (4, AV.int .i64 i)] → SH st [pt io0 (.cells (c34 t2_)), bx34_2o io1 out] → W (X16 r) [.lp C16_10, .blk 0, .code C16_20] tm st
theorem w16 : ∀ (x : St16) (r : T34), G16 x = some r → M16 x r := by
 refine G16.partial_correctness (M16) ?_
 intro g ih x r hF
 cases x with
 | p1 p i t2_ out =>
  dsimp only at hF
  intro tm st io0 io1 hf hs
  refine en hf ?_
  refine lp ?_
  refine rn 1 rfl ?_
  refine W.o (e_faddrD rfl) ?_
  refine W.o (l1D rfl rfl) ?_
  refine W.o (e_len (rd_V rfl)) ?_
  refine rn 1 rfl ?_
  refine ci hF rfl (fun c_4 hF => ?_) (fun c_4 hF => ?_)
  · have hs := (hs.p 2 [1, 0] rfl)
    obtain ⟨j_5, hs⟩ := SH.bx1o hs
    refine rn 0 rfl ?_
    refine drn hs fun s_6 st h0 hs => ?_
    refine de rfl (e_faddr rfl (h0.g 0 rfl)) ?_
    refine de rfl (l1 rfl (h0.g 0 rfl) rfl) ?_
    refine de rfl (e_faddrD rfl) ?_
    refine de rfl (l1D rfl rfl) ?_
    obtain ⟨v_8, g_9, hF⟩ := bind_some hF
    refine dn 1 rfl ?_
    refine de rfl (e_iaddrL (rd_V rfl) rfl g_9) ?_
    refine de rfl (lND (s := c52 v_8) rfl rfl rfl) ?_
    refine dbs (f := v52) ([v_8] : List T52) hs 0 rfl rfl rfl rfl rfl rfl fun st hs => ?_
    refine dz ?_
    obtain ⟨g_11, hF⟩ := grd_some hF
    refine ap (ys := ls (some ([v_8] : List T52))) hs 2 rfl rfl (ae_rd (rd_W (o := (some ([v_8] : List T52))) (id := (List.length s_6 + 0)) rfl)) g_11 (fun _ => rfl) fun st b_12 hs => ?_
    refine W.o (e_faddr rfl (hs.g 1 rfl)) ?_
    refine so hs 1 rfl rfl rfl ownV_c rfl (cs' := (cI .i64) (out.Groups) ++ ((cI .i64) (out.Slots) ++ ([ownV 9 v52 (sapp out.Code (ls (some ([v_8] : List T52)))) b_12]))) rfl rfl fun st hs => ?_
    refine rn 3 rfl ?_
    have hs : SH st (bx34_2o io1 ({ out with Code := sapp out.Code (ls (some ([v_8] : List T52))) } : T34) :: _) := SH.bx1c b_12 (hs.p 4 [1, 1, 0, 0] rfl)
    exact ih (.p1 p (IntKind.wrap .i64 (i + 1)) t2_ ({ out with Code := sapp out.Code (ls (some ([v_8] : List T52))) } : T34)) _ hF _ _ io0 io1 ⟨rfl, rfl, rfl, rfl, trivial⟩ (hs.p 3 [2, 0] rfl)
  · refine rj 0 2 rfl ?_
    have hs := (hs.p 2 [1, 0] rfl)
    obtain ⟨j_13, hs⟩ := SH.bx1o hs
    refine frzO (off := 2) (es := 9) (g := v52) hs rfl (cs' := c34 out) rfl fun st hs => ?_
    refine rn 0 rfl ?_
    refine W.o (lN (s := c34 out) rfl (hs.g 0 rfl) rfl rfl) ?_
    refine sl hs 1 rfl rfl (LR.whole _ _) (c34_len _) rfl (c34_len _) (c34_one _) rfl fun st hs => ?_
    refine rn 0 rfl ?_
    cases hF
    exact rD (rl_cellN rfl (hs.g 1 rfl) (LR.whole _ _) (c34_len _) rl0) rfl
noncomputable def F16 (p : T34) : Option T34 :=
 (G16 (.p1 p 0 ({ Groups := 0, Slots := 0, Code := none } : T34) ({ Groups := p.Groups, Slots := p.Slots, Code := (none : Sl T52) } : T34)))
theorem d16 (p : T34) (r : T34) (hF : F16 p = some r) : DFun Try.prog noG 16 [v34 p] (v34 r) := by
 unfold F16 at hF
 refine bD k16 rfl ?_
 have hs : SH [] [] := SH.nil
 generalize ([] : Store) = st at hs ⊢
 refine rn 0 rfl ?_
 refine W.o (e_boxD (cs := c34 p) rfl rfl (c34_one _)) ?_
 refine al hs (cs := c34 ({ Groups := 0, Slots := 0, Code := none } : T34)) rfl fun st b_1 hs => ?_
 refine rn 0 rfl ?_
 refine W.o (e_faddrD rfl) ?_
 refine W.o (l1D rfl rfl) ?_
 refine W.o (e_faddrD rfl) ?_
 refine W.o (l1D rfl rfl) ?_
 refine W.o (bR (cs := c34 ({ Groups := p.Groups, Slots := p.Slots, Code := none } : T34)) rfl rfl) ?_
 have hs := hs.ownNil T52
 refine al hs (cs := (cI .i64) (({ Groups := 0, Slots := 0, Code := none } : T34).Groups) ++ ((cI .i64) (({ Groups := 0, Slots := 0, Code := none } : T34).Slots) ++ ([ownV 9 v52 (none : Sl T52) 0]))) rfl fun st b_2 hs => ?_
 refine sr hs 0 rfl rfl rfl (cs' := (cI .i64) (({ Groups := p.Groups, Slots := p.Slots, Code := none } : T34).Groups) ++ ((cI .i64) (({ Groups := p.Groups, Slots := p.Slots, Code := none } : T34).Slots) ++ ([ownV 9 v52 (none : Sl T52) 0]))) rfl rfl fun st hs => ?_
 refine rn 1 rfl ?_
 have hs : SH st (bx34_2o b_2 ({ Groups := p.Groups, Slots := p.Slots, Code := (none : Sl T52) } : T34) :: _) := SH.bx1c 0 (hs.p 3 [0, 0, 0] rfl)
 exact w16 (.p1 p 0 ({ Groups := 0, Slots := 0, Code := none } : T34) ({ Groups := p.Groups, Slots := p.Slots, Code := (none : Sl T52) } : T34)) _ hF _ _ b_1 b_2 ⟨rfl, rfl, rfl, rfl, trivial⟩ (hs.p 2 [1, 0] rfl)
/-! ### 18: paddock/paddockref10.Same -/
def C18_27 : ACode := .s (.ops [q 4 (.mv (.c (.bool false)))]) .ret
def C18_16 : ACode := .s (.s (.ops [q 27 (.mv 5), q 28 (.faddr 2 2), q 29 (.load1 28), q 30 (.len 29), q 31 (.binI .lss 27 30)]) (.cond 31 .skip (.exit 0))) (.s (.block 1 (.s (.draw [] 0 0 [q 34 (.faddr 2 2), q 35 (.load1 34), q 36 (.mv 5), q 37 (.iaddrL 9 35 36), q 38 (.loadN 9 37), q 39 (.faddr 2 3), q 40 (.load1 39), q 41 (.mv 5), q 42 (.iaddrL 9 40 41), q 43 (.loadN 9 42), q 44 (.eqA true [.i, .i, .i, .i, .i, .i, .i, .i, .i] 38 43)] []) (.cond 44 C18_27 .skip))) (.ops [q 32 (.mv 5), q 33 (.binI .add 32 (ki 1)), q 5 (.mv 33)]))
def C18_32 : ACode := .s (.ops [q 4 (.mv (.c (.bool true)))]) .ret
def C18_1 : ACode := .s (.ops [q 2 (.boxD 3 0), q 3 (.boxD 3 1), q 4 (.mv (.c (.bool false)))]) (.s (.s (.ops [q 6 (.faddr 0 2), q 7 (.load1 6), q 8 (.faddr 0 3), q 9 (.load1 8), q 10 (.binI .neq 7 9), q 11 (.mv 10), (q 12 (.faddr 1 2)).n 11, (q 13 (.load1 12)).n 11, (q 14 (.faddr 1 3)).n 11, (q 15 (.load1 14)).n 11, (q 16 (.binI .neq 13 15)).n 11, q 17 (.pick 11 (.c (.bool true)) 16), q 18 (.mv 17), (q 19 (.faddr 2 2)).n 18, (q 20 (.load1 19)).n 18, (q 21 (.len 20)).n 18, (q 22 (.faddr 2 3)).n 18, (q 23 (.load1 22)).n 18, (q 24 (.len 23)).n 18, (q 25 (.binI .neq 21 24)).n 18, q 26 (.pick 18 (.c (.bool true)) 25)]) (.cond 26 (.s (.ops [q 4 (.mv (.c (.bool false)))]) .ret) .skip)) (.s (.s (.ops [q 5 (.mv (ki 0))]) (.block 0 (.loop C18_16))) C18_32))
def R18 : List RA := [(.tmp 4)]
theorem k18 : compF Try.prog (muL [2, 3]) 18 = some ⟨45, C18_1, R18⟩ := by kernel_rfl
noncomputable abbrev X18 (r : Bool) : Cx := cD Try.prog noG 45 R18 (AV.bool r) [2, 3]
inductive St18 where
 | p1 (a : T34) (b : T34) (i : Int)
noncomputable def G18 : St18 → Option Bool
 | .p1 a b i =>
  (if (decide (i < ((ls a.Code).length : Int))) = true then
   (ix (ls a.Code) i >>= fun v_5 =>
    (ix (ls b.Code) i >>= fun v_7 =>
     (if (!decide (v_5 = v_7)) = true then
      (some false)
     else
      (G18 (.p1 a b (IntKind.wrap .i64 (i + 1)))))))
  else
   (some true))
 partial_fixpoint
def M18 (x : St18) (r : Bool) : Prop := match x with
 | .p1 a b i => ∀ (tm : Fr) (st : Store), Frm tm [(2, .dptr (c34 a)), (3, .dptr (c34 b)), (5, AV.int .i64 i)] → SH st [] → W (X18 r) [.lp C18_16, .blk 0, .code C18_32] tm st
theorem w18 : ∀ (x : St18) (r : Bool), G18 x = some r → M18 x r := by
 refine G18.partial_correctness (M18) ?_
 intro g ih x r hF
 cases x with
 | p1 a b i =>
  dsimp only at hF
  intro tm st hf hs
  refine en hf ?_
  refine lp ?_
  refine rn 1 rfl ?_
  refine W.o (e_faddrD rfl) ?_
  refine W.o (l1D rfl rfl) ?_
  refine W.o (e_len (rd_V rfl)) ?_
  refine rn 1 rfl ?_
  refine ci hF rfl (fun c_4 hF => ?_) (fun c_4 hF => ?_)
  · refine rn 0 rfl ?_
    have h0 := hs
    refine dr0 ?_
    refine de rfl (e_faddrD rfl) ?_
    refine de rfl (l1D rfl rfl) ?_
    obtain ⟨v_5, g_6, hF⟩ := bind_some hF
    refine dn 1 rfl ?_
    refine de rfl (e_iaddrL (rd_V rfl) rfl g_6) ?_
    refine de rfl (lND (s := c52 v_5) rfl rfl rfl) ?_
    refine de rfl (e_faddrD rfl) ?_
    refine de rfl (l1D rfl rfl) ?_
    obtain ⟨v_7, g_8, hF⟩ := bind_some hF
    refine dn 1 rfl ?_
    refine de rfl (e_iaddrL (rd_V rfl) rfl g_8) ?_
    refine de rfl (lND (s := c52 v_7) rfl rfl rfl) ?_
    refine de rfl (e_neA rfl rfl (c52_eq v_5 v_7)) ?_
    refine dz ?_
    refine rn 0 rfl ?_
    refine ci hF rfl (fun c_9 hF => ?_) (fun c_9 hF => ?_)
    · refine rn 1 rfl ?_
      cases hF
      exact rD (rlt rl0) rfl
    · refine rn 3 rfl ?_
      exact ih (.p1 a b (IntKind.wrap .i64 (i + 1))) _ hF _ _ ⟨rfl, rfl, rfl, trivial⟩ hs
  · refine rn 1 rfl ?_
    cases hF
    exact rD (rlt rl0) rfl
noncomputable def F18 (a : T34) (b : T34) : Option Bool :=
 (if (a.Groups != b.Groups) = true then
  (some false)
 else
  (if (a.Slots != b.Slots) = true then
   (some false)
  else
   (if (((ls a.Code).length : Int) != ((ls b.Code).length : Int)) = true then
    (some false)
   else
    (G18 (.p1 a b 0)))))
theorem d18 (a : T34) (b : T34) (r : Bool) (hF : F18 a b = some r) : DFun Try.prog noG 18 [v34 a, v34 b] (AV.bool r) := by
 unfold F18 at hF
 refine bD k18 rfl ?_
 have hs : SH [] [] := SH.nil
 generalize ([] : Store) = st at hs ⊢
 refine rn 0 rfl ?_
 refine W.o (e_boxD (cs := c34 a) rfl rfl (c34_one _)) ?_
 refine W.o (e_boxD (cs := c34 b) rfl rfl (c34_one _)) ?_
 refine rn 1 rfl ?_
 refine W.o (e_faddrD rfl) ?_
 refine W.o (l1D rfl rfl) ?_
 refine W.o (e_faddrD rfl) ?_
 refine W.o (l1D rfl rfl) ?_
 refine rn 2 rfl ?_
 refine bi hF (fun c_1 hF => ?_) (fun c_1 hF => ?_)
 · refine wfx 11 rfl c_1 ?_
   refine rn 15 rfl ?_
   refine ct rfl rfl ?_
   refine rn 1 rfl ?_
   cases hF
   exact rD (rlt rl0) rfl
 · refine wfx 11 rfl c_1 ?_
   refine W.on rfl rfl ?_
   refine W.o (e_faddrD rfl) ?_
   refine W.on rfl rfl ?_
   refine W.o (l1D rfl rfl) ?_
   refine W.on rfl rfl ?_
   refine W.o (e_faddrD rfl) ?_
   refine W.on rfl rfl ?_
   refine W.o (l1D rfl rfl) ?_
   refine rn 3 rfl ?_
   refine bi hF (fun c_2 hF => ?_) (fun c_2 hF => ?_)
   · refine wfx 18 rfl c_2 ?_
     refine rn 8 rfl ?_
     refine ct rfl rfl ?_
     refine rn 1 rfl ?_
     cases hF
     exact rD (rlt rl0) rfl
   · refine wfx 18 rfl c_2 ?_
     refine W.on rfl rfl ?_
     refine W.o (e_faddrD rfl) ?_
     refine W.on rfl rfl ?_
     refine W.o (l1D rfl rfl) ?_
     refine W.on rfl rfl ?_
     refine W.o (e_len (rd_V rfl)) ?_
     refine W.on rfl rfl ?_
     refine W.o (e_faddrD rfl) ?_
     refine W.on rfl rfl ?_
     refine W.o (l1D rfl rfl) ?_
     refine W.on rfl rfl ?_
     refine W.o (e_len (rd_V rfl)) ?_
     refine rn 2 rfl ?_
     refine ci hF rfl (fun c_3 hF => ?_) (fun c_3 hF => ?_)
     · refine rn 1 rfl ?_
       cases hF
       exact rD (rlt rl0) rfl
     · refine rn 1 rfl ?_
       exact w18 (.p1 a b 0) _ hF _ _ ⟨rfl, rfl, rfl, trivial⟩ hs
/-! ### 34: paddock/paddockref10.fits -/
def C34_20 : ACode := .ops [q 22 (.faddr 5 4), q 23 (.load1 22), q 24 (.faddr 5 7), q0 (.store 1 24 23)]
def C34_24 : ACode := .cond 25 .skip (.s (.ops [q 27 (.binI .eql 13 (ku 5)), q 25 (.mv 27)]) (.cond 25 .skip (.ops [q 28 (.binI .eql 13 (ku 9)), q 25 (.mv 28)])))
def C34_32 : ACode := .ops [q 29 (.faddr 6 4), q 30 (.load1 29), q 31 (.faddr 6 7), q0 (.store 1 31 30)]
def C34_46 : ACode := .ops [q 43 (.faddr 8 4), q 44 (.load1 43), q 45 (.faddr 8 7), q0 (.store 1 45 44)]
def C34_33 : ACode := .s (.ops [q 33 (.binI .eql 13 (ku 6)), q 32 (.mv 33)]) (.cond 32 (.s (.ops [q 34 (.faddr 6 4), q 35 (.load1 34), q 36 (.faddr 6 7), q0 (.store 1 36 35)]) (.ops [q 37 (.faddr 7 4), q 38 (.load1 37), q 39 (.faddr 7 7), q0 (.store 1 39 38)])) (.s (.s (.ops [q 41 (.binI .eql 13 (ku 7)), q 40 (.mv 41)]) (.cond 40 .skip (.ops [q 42 (.binI .eql 13 (ku 8)), q 40 (.mv 42)]))) (.cond 40 C34_46 (.s (.s (.ops [q 47 (.binI .eql 13 (ku 10)), q 46 (.mv 47)]) (.cond 46 .skip (.s (.ops [q 48 (.binI .eql 13 (ku 11)), q 46 (.mv 48)]) (.cond 46 .skip (.ops [q 49 (.binI .eql 13 (ku 12)), q 46 (.mv 49)]))))) (.cond 46 .skip (.s (.ops [q 6 (.mv (.c (.bool false)))]) .ret))))))
def C34_74 : ACode := .s (.ops [q 68 (.faddr 5 4), q 69 (.load1 68), q 70 (.binI .geq 69 (ki 0)), q 71 (.mv 70), (q 72 (.faddr 5 4)).y 71, (q 73 (.load1 72)).y 71, (q 74 (.faddr 2 3)).y 71, (q 75 (.load1 74)).y 71, (q 76 (.len 75)).y 71, (q 77 (.binI .lss 73 76)).y 71, q 78 (.pick 71 77 (.c (.bool false))), q 6 (.mv 78)]) .ret
def C34_82 : ACode := .s (.ops [q 87 (.faddr 8 4), q 88 (.load1 87), q 89 (.binI .geq 88 (ki 0)), q 90 (.mv 89), (q 91 (.faddr 8 4)).y 90, (q 92 (.load1 91)).y 90, (q 93 (.faddr 1 3)).y 90, (q 94 (.load1 93)).y 90, (q 95 (.binI .lss 92 94)).y 90, q 96 (.pick 90 95 (.c (.bool false))), q 6 (.mv 96)]) .ret
def C34_96 : ACode := .s (.ops [q 132 (.mv 8), q 133 (.un .not 132), q 134 (.mv 133), (q 135 (.faddr 6 4)).n 134, (q 136 (.load1 135)).n 134, (q 137 (.binI .geq 136 (ki 1))).n 134, (q 138 (.mv 137)).n 134, (q 139 (.faddr 6 4)).y 138, (q 140 (.load1 139)).y 138, (q 141 (.faddr 0 3)).y 138, (q 142 (.load1 141)).y 138, (q 143 (.binI .leq 140 142)).y 138, (q 144 (.pick 138 143 (.c (.bool false)))).n 134, q 145 (.pick 134 (.c (.bool true)) 144), q 6 (.mv 145)]) .ret
def C34_94 : ACode := .s (.ops [q 114 (.faddr 0 4), q 115 (.load1 114), q 116 (.binI .eql 115 (ku 4)), q 117 (.mv 116), (q 118 (.faddr 0 4)).n 117, (q 119 (.load1 118)).n 117, (q 120 (.binI .eql 119 (ku 5))).n 117, q 121 (.pick 117 (.c (.bool true)) 120), q 122 (.mv 121), (q 123 (.faddr 0 4)).n 122, (q 124 (.load1 123)).n 122, (q 125 (.binI .eql 124 (ku 9))).n 122, q 126 (.pick 122 (.c (.bool true)) 125), q 127 (.mv 126), (q 128 (.faddr 0 4)).n 127, (q 129 (.load1 128)).n 127, (q 130 (.binI .eql 129 (ku 6))).n 127, q 131 (.pick 127 (.c (.bool true)) 130), q 8 (.mv 131)]) C34_96
def C34_86 : ACode := .s (.s (.ops [q 97 (.faddr 0 4), q 98 (.load1 97), q 99 (.binI .eql 98 (ku 6)), q 100 (.mv 99), (q 101 (.faddr 7 4)).y 100, (q 102 (.load1 101)).y 100, (q 103 (.faddr 6 4)).y 100, (q 104 (.load1 103)).y 100, (q 105 (.binI .lss 102 104)).y 100, (q 106 (.mv 105)).y 100, (q 107 (.faddr 7 4)).n 106, (q 108 (.load1 107)).n 106, (q 109 (.faddr 0 3)).n 106, (q 110 (.load1 109)).n 106, (q 111 (.binI .gtr 108 110)).n 106, (q 112 (.pick 106 (.c (.bool true)) 111)).y 100, q 113 (.pick 100 112 (.c (.bool false)))]) (.cond 113 (.s (.ops [q 6 (.mv (.c (.bool false)))]) .ret) .skip)) C34_94
def C34_78 : ACode := .s (.s (.ops [q 79 (.faddr 0 4), q 80 (.load1 79), q 81 (.binI .eql 80 (ku 7)), q 82 (.mv 81), (q 83 (.faddr 0 4)).n 82, (q 84 (.load1 83)).n 82, (q 85 (.binI .eql 84 (ku 8))).n 82, q 86 (.pick 82 (.c (.bool true)) 85)]) (.cond 86 C34_82 .skip)) C34_86
def C34_62 : ACode := .s (.s (.ops [q 50 (.loadN 9 4), q 51 (.loadN 9 7), q 52 (.eqA true [.i, .i, .i, .i, .i, .i, .i, .i, .i] 50 51), q 53 (.mv 52), (q 54 (.mv 2)).n 53, (q 55 (.faddr 0 4)).n 53, (q 56 (.load1 55)).n 53, (q 57 (.binI .eql 56 (ku 12))).n 53, (q 58 (.eqB true 54 57)).n 53, q 59 (.pick 53 (.c (.bool true)) 58)]) (.cond 59 (.s (.ops [q 6 (.mv (.c (.bool false)))]) .ret) .skip)) (.s (.s (.ops [q 60 (.faddr 0 4), q 61 (.load1 60), q 62 (.binI .eql 61 (ku 2)), q 63 (.mv 62), (q 64 (.faddr 0 4)).n 63, (q 65 (.load1 64)).n 63, (q 66 (.binI .eql 65 (ku 3))).n 63, q 67 (.pick 63 (.c (.bool true)) 66)]) (.cond 67 C34_74 .skip)) C34_78)
def C34_1 : ACode := .s (.ops [q 3 (.boxD 3 0), q 4 (.boxD 9 1), q 6 (.mv (.c (.bool false)))]) (.s (.ops [q 9 (.faddr 0 4), q 10 (.load1 9), q 11 (.build [(.int .u8 0), (.int .u64 0), (.int .u64 0), (.int .u64 0), (.int .u64 0), (.int .i64 0), (.int .i64 0), (.int .i64 0), (.int .i64 0)] [(0, (1, 10))]), q 7 (.alloc [(.int .u8 0), (.int .u64 0), (.int .u64 0), (.int .u64 0), (.int .u64 0), (.int .i64 0), (.int .i64 0), (.int .i64 0), (.int .i64 0)]), q0 (.store 9 7 11)]) (.s (.s (.ops [q 12 (.faddr 0 4), q 13 (.load1 12)]) (.block 0 (.s (.ops [q 15 (.binI .eql 13 (ku 1)), q 14 (.mv 15)]) (.cond 14 (.ops [q 16 (.faddr 1 4), q 17 (.loadN 4 16), q 18 (.faddr 1 7), q0 (.store 4 18 17)]) (.s (.s (.ops [q 20 (.binI .eql 13 (ku 2)), q 19 (.mv 20)]) (.cond 19 .skip (.ops [q 21 (.binI .eql 13 (ku 3)), q 19 (.mv 21)]))) (.cond 19 C34_20 (.s (.s (.ops [q 26 (.binI .eql 13 (ku 4)), q 25 (.mv 26)]) C34_24) (.cond 25 C34_32 C34_33)))))))) C34_62))
def R34 : List RA := [(.tmp 6)]
theorem k34 : compF Try.prog (muL [3, 4]) 34 = some ⟨146, C34_1, R34⟩ := by kernel_rfl
noncomputable abbrev X34 (r : Bool) : Cx := cD Try.prog noG 146 R34 (AV.bool r) [3, 4]
inductive St34 where
 | p1 (last : Bool) (p : T34) (x_ : T52) (y : T52)
 | p2 (last : Bool) (p : T34) (x_ : T52) (y : T52)
 | p3 (last : Bool) (p : T34) (x_ : T52) (y : T52)
 | p4 (last : Bool) (p : T34) (x_ : T52) (y : T52)
 | p5 (p : T34) (x_ : T52)
 | p6 (p : T34) (x_ : T52)
 | p7 (p : T34) (x_ : T52)
 | p8 (p : T34) (x_ : T52) (grouped : Bool)
noncomputable def G34 : St34 → Option Bool
 | .p1 last p x_ y =>
  (if (!decide (x_ = y)) = true then
   (some false)
  else
   (if (!(last == (x_.Kind == 12))) = true then
    (some false)
   else
    (if (x_.Kind == 2) = true then
     (G34 (.p5 p x_))
    else
     (if (x_.Kind == 3) = true then
      (G34 (.p5 p x_))
     else
      (if (x_.Kind == 7) = true then
       (G34 (.p6 p x_))
      else
       (if (x_.Kind == 8) = true then
        (G34 (.p6 p x_))
       else
        (if (x_.Kind == 6) = true then
         (if (decide (x_.Last < x_.Group)) = true then
          (some false)
         else
          (if (decide (x_.Last > p.Groups)) = true then
           (some false)
          else
           (G34 (.p7 p x_))))
        else
         (G34 (.p7 p x_)))))))))
 | .p2 last p x_ y =>
  (G34 (.p1 last p x_ ({ y with To := x_.To } : T52)))
 | .p3 last p x_ y =>
  (G34 (.p1 last p x_ ({ y with Group := x_.Group } : T52)))
 | .p4 last p x_ y =>
  (G34 (.p1 last p x_ ({ y with Slot := x_.Slot } : T52)))
 | .p5 p x_ =>
  (if (decide (x_.To ≥ 0)) = true then
   (some (decide (x_.To < ((ls p.Code).length : Int))))
  else
   (some false))
 | .p6 p x_ =>
  (if (decide (x_.Slot ≥ 0)) = true then
   (some (decide (x_.Slot < p.Slots)))
  else
   (some false))
 | .p7 p x_ =>
  (if (x_.Kind == 4) = true then
   (G34 (.p8 p x_ true))
  else
   (if (x_.Kind == 5) = true then
    (G34 (.p8 p x_ true))
   else
    (if (x_.Kind == 9) = true then
     (G34 (.p8 p x_ true))
    else
     (G34 (.p8 p x_ (x_.Kind == 6))))))
 | .p8 p x_ grouped =>
  (if (!grouped) = true then
   (some true)
  else
   (if (decide (x_.Group ≥ 1)) = true then
    (some (decide (x_.Group ≤ p.Groups)))
   else
    (some false)))
 partial_fixpoint
def M34 (x : St34) (r : Bool) : Prop := match x with
 | .p1 last p x_ y => ∀ (tm : Fr) (st : Store) (io0 : Nat), Frm tm [(2, AV.bool last), (3, .dptr (c34 p)), (4, .dptr (c52 x_)), (7, .ptr io0 0)] → SH st [pt io0 (.cells (c52 y))] → W (X34 r) [.code C34_62] tm st
 | .p2 last p x_ y => ∀ (tm : Fr) (st : Store) (io0 : Nat), Frm tm [(2, AV.bool last), (3, .dptr (c34 p)), (4, .dptr (c52 x_)), (7, .ptr io0 0)] → SH st [pt io0 (.cells (c52 y))] → W (X34 r) [.code C34_20, .blk 0, .code C34_62] tm st
 | .p3 last p x_ y => ∀ (tm : Fr) (st : Store) (io0 : Nat), Frm tm [(2, AV.bool last), (3, .dptr (c34 p)), (4, .dptr (c52 x_)), (7, .ptr io0 0)] → SH st [pt io0 (.cells (c52 y))] → W (X34 r) [.code C34_32, .blk 0, .code C34_62] tm st
 | .p4 last p x_ y => ∀ (tm : Fr) (st : Store) (io0 : Nat), Frm tm [(2, AV.bool last), (3, .dptr (c34 p)), (4, .dptr (c52 x_)), (7, .ptr io0 0)] → SH st [pt io0 (.cells (c52 y))] → W (X34 r) [.code C34_46, .blk 0, .code C34_62] tm st
 | .p5 p x_ => ∀ (tm : Fr) (st : Store), Frm tm [(3, .dptr (c34 p)), (4, .dptr (c52 x_))] → SH st [] → W (X34 r) [.code C34_74, .code C34_78] tm st
 | .p6 p x_ => ∀ (tm : Fr) (st : Store), Frm tm [(3, .dptr (c34 p)), (4, .dptr (c52 x_))] → SH st [] → W (X34 r) [.code C34_82, .code C34_86] tm st
 | .p7 p x_ => ∀ (tm : Fr) (st : Store), Frm tm [(3, .dptr (c34 p)), (4, .dptr (c52 x_))] → SH st [] → W (X34 r) [.code C34_94] tm st
 | .p8 p x_ grouped => ∀ (tm : Fr) (st : Store), Frm tm [(3, .dptr (c34 p)), (4, .dptr (c52 x_)), (8, AV.bool grouped)] → SH st [] → W (X34 r) [.code C34_96] tm st
theorem w34 : ∀ (x : St34) (r : Bool), G34 x = some r → M34 x r := by
 refine G34.partial_correctness (M34) ?_
 intro g ih x r hF
 cases x with
 | p1 last p x_ y =>
  dsimp only at hF
  intro tm st io0 hf hs
  refine en hf ?_
  refine rn 0 rfl ?_
  refine W.o (lND (s := c52 x_) rfl rfl rfl) ?_
  refine W.o (lN (s := c52 y) rfl (hs.g 0 rfl) rfl rfl) ?_
  refine W.o (e_neA rfl rfl (c52_eq x_ y)) ?_
  refine rn 1 rfl ?_
  refine bi hF (fun c_14 hF => ?_) (fun c_14 hF => ?_)
  · refine wfx 53 rfl c_14 ?_
    refine rn 6 rfl ?_
    refine ct rfl rfl ?_
    refine rn 1 rfl ?_
    cases hF
    exact rD (rlt rl0) rfl
  · refine wfx 53 rfl c_14 ?_
    refine rn 1 rfl ?_
    refine W.on rfl rfl ?_
    refine W.o (e_faddrD rfl) ?_
    refine W.on rfl rfl ?_
    refine W.o (l1D rfl rfl) ?_
    refine rn 3 rfl ?_
    refine ci hF rfl (fun c_15 hF => ?_) (fun c_15 hF => ?_)
    · refine rn 1 rfl ?_
      cases hF
      exact rD (rlt rl0) rfl
    · refine rn 0 rfl ?_
      refine W.o (e_faddrD rfl) ?_
      refine W.o (l1D rfl rfl) ?_
      refine rn 2 rfl ?_
      refine bi hF (fun c_16 hF => ?_) (fun c_16 hF => ?_)
      · refine wfx 63 rfl c_16 ?_
        refine rn 4 rfl ?_
        refine ct rfl rfl ?_
        exact ih (.p5 p x_) _ hF _ _ ⟨rfl, rfl, trivial⟩ (hs.p 1 [] rfl)
      · refine wfx 63 rfl c_16 ?_
        refine W.on rfl rfl ?_
        refine W.o (e_faddrD rfl) ?_
        refine W.on rfl rfl ?_
        refine W.o (l1D rfl rfl) ?_
        refine rn 2 rfl ?_
        refine ci hF rfl (fun c_17 hF => ?_) (fun c_17 hF => ?_)
        · exact ih (.p5 p x_) _ hF _ _ ⟨rfl, rfl, trivial⟩ (hs.p 1 [] rfl)
        · refine rn 0 rfl ?_
          refine W.o (e_faddrD rfl) ?_
          refine W.o (l1D rfl rfl) ?_
          refine rn 2 rfl ?_
          refine bi hF (fun c_18 hF => ?_) (fun c_18 hF => ?_)
          · refine wfx 82 rfl c_18 ?_
            refine rn 4 rfl ?_
            refine ct rfl rfl ?_
            exact ih (.p6 p x_) _ hF _ _ ⟨rfl, rfl, trivial⟩ (hs.p 1 [] rfl)
          · refine wfx 82 rfl c_18 ?_
            refine W.on rfl rfl ?_
            refine W.o (e_faddrD rfl) ?_
            refine W.on rfl rfl ?_
            refine W.o (l1D rfl rfl) ?_
            refine rn 2 rfl ?_
            refine ci hF rfl (fun c_19 hF => ?_) (fun c_19 hF => ?_)
            · exact ih (.p6 p x_) _ hF _ _ ⟨rfl, rfl, trivial⟩ (hs.p 1 [] rfl)
            · refine rn 0 rfl ?_
              refine W.o (e_faddrD rfl) ?_
              refine W.o (l1D rfl rfl) ?_
              refine rn 2 rfl ?_
              refine bi hF (fun c_20 hF => ?_) (fun c_20 hF => ?_)
              · refine wfx 100 rfl c_20 ?_
                refine W.on rfl rfl ?_
                refine W.o (e_faddrD rfl) ?_
                refine W.on rfl rfl ?_
                refine W.o (l1D rfl rfl) ?_
                refine W.on rfl rfl ?_
                refine W.o (e_faddrD rfl) ?_
                refine W.on rfl rfl ?_
                refine W.o (l1D rfl rfl) ?_
                refine rn 2 rfl ?_
                refine bi hF (fun c_21 hF => ?_) (fun c_21 hF => ?_)
                · refine wfx 106 rfl c_21 ?_
                  refine rn 7 rfl ?_
                  refine ct rfl rfl ?_
                  refine rn 1 rfl ?_
                  cases hF
                  exact rD (rlt rl0) rfl
                · refine wfx 106 rfl c_21 ?_
                  refine W.on rfl rfl ?_
                  refine W.o (e_faddrD rfl) ?_
                  refine W.on rfl rfl ?_
                  refine W.o (l1D rfl rfl) ?_
                  refine W.on rfl rfl ?_
                  refine W.o (e_faddrD rfl) ?_
                  refine W.on rfl rfl ?_
                  refine W.o (l1D rfl rfl) ?_
                  refine rn 3 rfl ?_
                  refine ci hF rfl (fun c_22 hF => ?_) (fun c_22 hF => ?_)
                  · refine rn 1 rfl ?_
                    cases hF
                    exact rD (rlt rl0) rfl
                  · refine rj 0 1 rfl ?_
                    exact ih (.p7 p x_) _ hF _ _ ⟨rfl, rfl, trivial⟩ (hs.p 1 [] rfl)
              · refine wfx 100 rfl c_20 ?_
                refine rn 13 rfl ?_
                refine cf rfl rfl ?_
                refine rj 0 1 rfl ?_
                exact ih (.p7 p x_) _ hF _ _ ⟨rfl, rfl, trivial⟩ (hs.p 1 [] rfl)
 | p2 last p x_ y =>
  dsimp only at hF
  intro tm st io0 hf hs
  refine en hf ?_
  refine rn 0 rfl ?_
  refine W.o (e_faddrD rfl) ?_
  refine W.o (l1D rfl rfl) ?_
  refine W.o (e_faddr rfl (hs.g 0 rfl)) ?_
  refine sr hs 0 rfl rfl rfl (cs' := c52 ({ y with To := x_.To } : T52)) rfl rfl fun st hs => ?_
  refine rj 0 2 rfl ?_
  exact ih (.p1 last p x_ ({ y with To := x_.To } : T52)) _ hF _ _ io0 ⟨rfl, rfl, rfl, rfl, trivial⟩ hs
 | p3 last p x_ y =>
  dsimp only at hF
  intro tm st io0 hf hs
  refine en hf ?_
  refine rn 0 rfl ?_
  refine W.o (e_faddrD rfl) ?_
  refine W.o (l1D rfl rfl) ?_
  refine W.o (e_faddr rfl (hs.g 0 rfl)) ?_
  refine sr hs 0 rfl rfl rfl (cs' := c52 ({ y with Group := x_.Group } : T52)) rfl rfl fun st hs => ?_
  refine rj 0 2 rfl ?_
  exact ih (.p1 last p x_ ({ y with Group := x_.Group } : T52)) _ hF _ _ io0 ⟨rfl, rfl, rfl, rfl, trivial⟩ hs
 | p4 last p x_ y =>
  dsimp only at hF
  intro tm st io0 hf hs
  refine en hf ?_
  refine rn 0 rfl ?_
  refine W.o (e_faddrD rfl) ?_
  refine W.o (l1D rfl rfl) ?_
  refine W.o (e_faddr rfl (hs.g 0 rfl)) ?_
  refine sr hs 0 rfl rfl rfl (cs' := c52 ({ y with Slot := x_.Slot } : T52)) rfl rfl fun st hs => ?_
  refine rj 0 2 rfl ?_
  exact ih (.p1 last p x_ ({ y with Slot := x_.Slot } : T52)) _ hF _ _ io0 ⟨rfl, rfl, rfl, rfl, trivial⟩ hs
 | p5 p x_ =>
  dsimp only at hF
  intro tm st hf hs
  refine en hf ?_
  refine rn 0 rfl ?_
  refine W.o (e_faddrD rfl) ?_
  refine W.o (l1D rfl rfl) ?_
  refine rn 2 rfl ?_
  refine bi hF (fun c_23 hF => ?_) (fun c_23 hF => ?_)
  · refine wfx 71 rfl c_23 ?_
    refine W.on rfl rfl ?_
    refine W.o (e_faddrD rfl) ?_
    refine W.on rfl rfl ?_
    refine W.o (l1D rfl rfl) ?_
    refine W.on rfl rfl ?_
    refine W.o (e_faddrD rfl) ?_
    refine W.on rfl rfl ?_
    refine W.o (l1D rfl rfl) ?_
    refine W.on rfl rfl ?_
    refine W.o (e_len (rd_V rfl)) ?_
    refine rn 3 rfl ?_
    cases hF
    exact rD (rlt rl0) rfl
  · refine wfx 71 rfl c_23 ?_
    refine rn 8 rfl ?_
    cases hF
    exact rD (rlt rl0) rfl
 | p6 p x_ =>
  dsimp only at hF
  intro tm st hf hs
  refine en hf ?_
  refine rn 0 rfl ?_
  refine W.o (e_faddrD rfl) ?_
  refine W.o (l1D rfl rfl) ?_
  refine rn 2 rfl ?_
  refine bi hF (fun c_24 hF => ?_) (fun c_24 hF => ?_)
  · refine wfx 90 rfl c_24 ?_
    refine W.on rfl rfl ?_
    refine W.o (e_faddrD rfl) ?_
    refine W.on rfl rfl ?_
    refine W.o (l1D rfl rfl) ?_
    refine W.on rfl rfl ?_
    refine W.o (e_faddrD rfl) ?_
    refine W.on rfl rfl ?_
    refine W.o (l1D rfl rfl) ?_
    refine rn 3 rfl ?_
    cases hF
    exact rD (rlt rl0) rfl
  · refine wfx 90 rfl c_24 ?_
    refine rn 7 rfl ?_
    cases hF
    exact rD (rlt rl0) rfl
 | p7 p x_ =>
  dsimp only at hF
  intro tm st hf hs
  refine en hf ?_
  refine rn 0 rfl ?_
  refine W.o (e_faddrD rfl) ?_
  refine W.o (l1D rfl rfl) ?_
  refine rn 2 rfl ?_
  refine bi hF (fun c_25 hF => ?_) (fun c_25 hF => ?_)
  · refine wfx 117 rfl c_25 ?_
    refine rj 15 1 rfl ?_
    exact ih (.p8 p x_ true) _ hF _ _ ⟨rfl, rfl, rfl, trivial⟩ hs
  · refine wfx 117 rfl c_25 ?_
    refine W.on rfl rfl ?_
    refine W.o (e_faddrD rfl) ?_
    refine W.on rfl rfl ?_
    refine W.o (l1D rfl rfl) ?_
    refine rn 3 rfl ?_
    refine bi hF (fun c_26 hF => ?_) (fun c_26 hF => ?_)
    · refine wfx 122 rfl c_26 ?_
      refine rj 10 1 rfl ?_
      exact ih (.p8 p x_ true) _ hF _ _ ⟨rfl, rfl, rfl, trivial⟩ hs
    · refine wfx 122 rfl c_26 ?_
      refine W.on rfl rfl ?_
      refine W.o (e_faddrD rfl) ?_
      refine W.on rfl rfl ?_
      refine W.o (l1D rfl rfl) ?_
      refine rn 3 rfl ?_
      refine bi hF (fun c_27 hF => ?_) (fun c_27 hF => ?_)
      · refine wfx 127 rfl c_27 ?_
        refine rj 5 1 rfl ?_
        exact ih (.p8 p x_ true) _ hF _ _ ⟨rfl, rfl, rfl, trivial⟩ hs
      · refine wfx 127 rfl c_27 ?_
        refine W.on rfl rfl ?_
        refine W.o (e_faddrD rfl) ?_
        refine W.on rfl rfl ?_
        refine W.o (l1D rfl rfl) ?_
        refine rj 3 1 rfl ?_
        exact ih (.p8 p x_ (x_.Kind == 6)) _ hF _ _ ⟨rfl, rfl, rfl, trivial⟩ hs
 | p8 p x_ grouped =>
  dsimp only at hF
  intro tm st hf hs
  refine en hf ?_
  refine rn 3 rfl ?_
  refine bi hF (fun c_28 hF => ?_) (fun c_28 hF => ?_)
  · refine wfx 134 rfl c_28 ?_
    refine rn 12 rfl ?_
    cases hF
    exact rD (rlt rl0) rfl
  · refine wfx 134 rfl c_28 ?_
    refine W.on rfl rfl ?_
    refine W.o (e_faddrD rfl) ?_
    refine W.on rfl rfl ?_
    refine W.o (l1D rfl rfl) ?_
    refine rn 2 rfl ?_
    refine bi hF (fun c_29 hF => ?_) (fun c_29 hF => ?_)
    · refine wfx 138 rfl c_29 ?_
      refine W.on rfl rfl ?_
      refine W.o (e_faddrD rfl) ?_
      refine W.on rfl rfl ?_
      refine W.o (l1D rfl rfl) ?_
      refine W.on rfl rfl ?_
      refine W.o (e_faddrD rfl) ?_
      refine W.on rfl rfl ?_
      refine W.o (l1D rfl rfl) ?_
      refine rn 4 rfl ?_
      cases hF
      exact rD (rlt rl0) rfl
    · refine wfx 138 rfl c_29 ?_
      refine rn 8 rfl ?_
      cases hF
      exact rD (rlt rl0) rfl
noncomputable def F34 (p : T34) (x_ : T52) (last : Bool) : Option Bool :=
 (if (x_.Kind == 1) = true then
  (G34 (.p1 last p x_ ({ Kind := x_.Kind, Set := x_.Set, To := 0, Group := 0, Last := 0, Slot := 0 } : T52)))
 else
  (if (x_.Kind == 2) = true then
   (G34 (.p2 last p x_ ({ Kind := x_.Kind, Set := (Arr.rep 4 0), To := 0, Group := 0, Last := 0, Slot := 0 } : T52)))
  else
   (if (x_.Kind == 3) = true then
    (G34 (.p2 last p x_ ({ Kind := x_.Kind, Set := (Arr.rep 4 0), To := 0, Group := 0, Last := 0, Slot := 0 } : T52)))
   else
    (if (x_.Kind == 4) = true then
     (G34 (.p3 last p x_ ({ Kind := x_.Kind, Set := (Arr.rep 4 0), To := 0, Group := 0, Last := 0, Slot := 0 } : T52)))
    else
     (if (x_.Kind == 5) = true then
      (G34 (.p3 last p x_ ({ Kind := x_.Kind, Set := (Arr.rep 4 0), To := 0, Group := 0, Last := 0, Slot := 0 } : T52)))
     else
      (if (x_.Kind == 9) = true then
       (G34 (.p3 last p x_ ({ Kind := x_.Kind, Set := (Arr.rep 4 0), To := 0, Group := 0, Last := 0, Slot := 0 } : T52)))
      else
       (if (x_.Kind == 6) = true then
        (G34 (.p1 last p x_ ({ Kind := x_.Kind, Set := (Arr.rep 4 0), To := 0, Group := x_.Group, Last := x_.Last, Slot := 0 } : T52)))
       else
        (if (x_.Kind == 7) = true then
         (G34 (.p4 last p x_ ({ Kind := x_.Kind, Set := (Arr.rep 4 0), To := 0, Group := 0, Last := 0, Slot := 0 } : T52)))
        else
         (if (x_.Kind == 8) = true then
          (G34 (.p4 last p x_ ({ Kind := x_.Kind, Set := (Arr.rep 4 0), To := 0, Group := 0, Last := 0, Slot := 0 } : T52)))
         else
          (if (x_.Kind == 10) = true then
           (G34 (.p1 last p x_ ({ Kind := x_.Kind, Set := (Arr.rep 4 0), To := 0, Group := 0, Last := 0, Slot := 0 } : T52)))
          else
           (if (x_.Kind == 11) = true then
            (G34 (.p1 last p x_ ({ Kind := x_.Kind, Set := (Arr.rep 4 0), To := 0, Group := 0, Last := 0, Slot := 0 } : T52)))
           else
            (if (x_.Kind == 12) = true then
             (G34 (.p1 last p x_ ({ Kind := x_.Kind, Set := (Arr.rep 4 0), To := 0, Group := 0, Last := 0, Slot := 0 } : T52)))
            else
             (some false)))))))))))))
theorem d34 (p : T34) (x_ : T52) (last : Bool) (r : Bool) (hF : F34 p x_ last = some r) : DFun Try.prog noG 34 [v34 p, v52 x_, AV.bool last] (AV.bool r) := by
 unfold F34 at hF
 refine bD k34 rfl ?_
 have hs : SH [] [] := SH.nil
 generalize ([] : Store) = st at hs ⊢
 refine rn 0 rfl ?_
 refine W.o (e_boxD (cs := c34 p) rfl rfl (c34_one _)) ?_
 refine W.o (e_boxD (cs := c52 x_) rfl rfl rfl) ?_
 refine rn 1 rfl ?_
 refine W.o (e_faddrD rfl) ?_
 refine W.o (l1D rfl rfl) ?_
 refine W.o (bR (cs := c52 ({ Kind := x_.Kind, Set := (Arr.rep 4 0), To := 0, Group := 0, Last := 0, Slot := 0 } : T52)) rfl rfl) ?_
 refine al hs (cs := c52 ({ Kind := 0, Set := (Arr.rep 4 0), To := 0, Group := 0, Last := 0, Slot := 0 } : T52)) rfl fun st b_1 hs => ?_
 refine sr hs 0 rfl rfl rfl (cs' := c52 ({ Kind := x_.Kind, Set := (Arr.rep 4 0), To := 0, Group := 0, Last := 0, Slot := 0 } : T52)) rfl rfl fun st hs => ?_
 refine rn 0 rfl ?_
 refine W.o (e_faddrD rfl) ?_
 refine W.o (l1D rfl rfl) ?_
 refine rn 2 rfl ?_
 refine ci hF rfl (fun c_2 hF => ?_) (fun c_2 hF => ?_)
 · refine rn 0 rfl ?_
   refine W.o (e_faddrD rfl) ?_
   refine W.o (lND (s := c24 x_.Set) rfl rfl rfl) ?_
   refine W.o (e_faddr rfl (hs.g 0 rfl)) ?_
   refine sr hs 0 rfl rfl rfl (cs' := c52 ({ Kind := x_.Kind, Set := x_.Set, To := 0, Group := 0, Last := 0, Slot := 0 } : T52)) rfl rfl fun st hs => ?_
   refine rj 0 2 rfl ?_
   exact w34 (.p1 last p x_ ({ Kind := x_.Kind, Set := x_.Set, To := 0, Group := 0, Last := 0, Slot := 0 } : T52)) _ hF _ _ b_1 ⟨rfl, rfl, rfl, rfl, trivial⟩ hs
 · refine rn 2 rfl ?_
   refine ci hF rfl (fun c_3 hF => ?_) (fun c_3 hF => ?_)
   · refine rn 0 rfl ?_
     refine ct rfl c_3 ?_
     exact w34 (.p2 last p x_ ({ Kind := x_.Kind, Set := (Arr.rep 4 0), To := 0, Group := 0, Last := 0, Slot := 0 } : T52)) _ hF _ _ b_1 ⟨rfl, rfl, rfl, rfl, trivial⟩ hs
   · refine rn 2 rfl ?_
     refine ci hF rfl (fun c_4 hF => ?_) (fun c_4 hF => ?_)
     · exact w34 (.p2 last p x_ ({ Kind := x_.Kind, Set := (Arr.rep 4 0), To := 0, Group := 0, Last := 0, Slot := 0 } : T52)) _ hF _ _ b_1 ⟨rfl, rfl, rfl, rfl, trivial⟩ hs
     · refine rn 2 rfl ?_
       refine ci hF rfl (fun c_5 hF => ?_) (fun c_5 hF => ?_)
       · refine rn 0 rfl ?_
         refine ct rfl c_5 ?_
         exact w34 (.p3 last p x_ ({ Kind := x_.Kind, Set := (Arr.rep 4 0), To := 0, Group := 0, Last := 0, Slot := 0 } : T52)) _ hF _ _ b_1 ⟨rfl, rfl, rfl, rfl, trivial⟩ hs
       · refine rn 2 rfl ?_
         refine ci hF rfl (fun c_6 hF => ?_) (fun c_6 hF => ?_)
         · refine rn 0 rfl ?_
           refine ct rfl c_6 ?_
           exact w34 (.p3 last p x_ ({ Kind := x_.Kind, Set := (Arr.rep 4 0), To := 0, Group := 0, Last := 0, Slot := 0 } : T52)) _ hF _ _ b_1 ⟨rfl, rfl, rfl, rfl, trivial⟩ hs
         · refine rn 2 rfl ?_
           refine ci hF rfl (fun c_7 hF => ?_) (fun c_7 hF => ?_)
           · exact w34 (.p3 last p x_ ({ Kind := x_.Kind, Set := (Arr.rep 4 0), To := 0, Group := 0, Last := 0, Slot := 0 } : T52)) _ hF _ _ b_1 ⟨rfl, rfl, rfl, rfl, trivial⟩ hs
           · refine rn 2 rfl ?_
             refine ci hF rfl (fun c_8 hF => ?_) (fun c_8 hF => ?_)
             · refine rn 0 rfl ?_
               refine W.o (e_faddrD rfl) ?_
               refine W.o (l1D rfl rfl) ?_
               refine W.o (e_faddr rfl (hs.g 0 rfl)) ?_
               refine sr hs 0 rfl rfl rfl (cs' := c52 ({ Kind := x_.Kind, Set := (Arr.rep 4 0), To := 0, Group := x_.Group, Last := 0, Slot := 0 } : T52)) rfl rfl fun st hs => ?_
               refine rn 0 rfl ?_
               refine W.o (e_faddrD rfl) ?_
               refine W.o (l1D rfl rfl) ?_
               refine W.o (e_faddr rfl (hs.g 0 rfl)) ?_
               refine sr hs 0 rfl rfl rfl (cs' := c52 ({ Kind := x_.Kind, Set := (Arr.rep 4 0), To := 0, Group := x_.Group, Last := x_.Last, Slot := 0 } : T52)) rfl rfl fun st hs => ?_
               refine rj 0 2 rfl ?_
               exact w34 (.p1 last p x_ ({ Kind := x_.Kind, Set := (Arr.rep 4 0), To := 0, Group := x_.Group, Last := x_.Last, Slot := 0 } : T52)) _ hF _ _ b_1 ⟨rfl, rfl, rfl, rfl, trivial⟩ hs
             · refine rn 2 rfl ?_
               refine ci hF rfl (fun c_9 hF => ?_) (fun c_9 hF => ?_)
               · refine rn 0 rfl ?_
                 refine ct rfl c_9 ?_
                 exact w34 (.p4 last p x_ ({ Kind := x_.Kind, Set := (Arr.rep 4 0), To := 0, Group := 0, Last := 0, Slot := 0 } : T52)) _ hF _ _ b_1 ⟨rfl, rfl, rfl, rfl, trivial⟩ hs
               · refine rn 2 rfl ?_
                 refine ci hF rfl (fun c_10 hF => ?_) (fun c_10 hF => ?_)
                 · exact w34 (.p4 last p x_ ({ Kind := x_.Kind, Set := (Arr.rep 4 0), To := 0, Group := 0, Last := 0, Slot := 0 } : T52)) _ hF _ _ b_1 ⟨rfl, rfl, rfl, rfl, trivial⟩ hs
                 · refine rn 2 rfl ?_
                   refine ci hF rfl (fun c_11 hF => ?_) (fun c_11 hF => ?_)
                   · refine rn 0 rfl ?_
                     refine ct rfl c_11 ?_
                     refine rj 0 2 rfl ?_
                     exact w34 (.p1 last p x_ ({ Kind := x_.Kind, Set := (Arr.rep 4 0), To := 0, Group := 0, Last := 0, Slot := 0 } : T52)) _ hF _ _ b_1 ⟨rfl, rfl, rfl, rfl, trivial⟩ hs
                   · refine rn 2 rfl ?_
                     refine ci hF rfl (fun c_12 hF => ?_) (fun c_12 hF => ?_)
                     · refine rn 0 rfl ?_
                       refine ct rfl c_12 ?_
                       refine rj 0 2 rfl ?_
                       exact w34 (.p1 last p x_ ({ Kind := x_.Kind, Set := (Arr.rep 4 0), To := 0, Group := 0, Last := 0, Slot := 0 } : T52)) _ hF _ _ b_1 ⟨rfl, rfl, rfl, rfl, trivial⟩ hs
                     · refine rn 2 rfl ?_
                       refine ci hF rfl (fun c_13 hF => ?_) (fun c_13 hF => ?_)
                       · refine rj 0 2 rfl ?_
                         exact w34 (.p1 last p x_ ({ Kind := x_.Kind, Set := (Arr.rep 4 0), To := 0, Group := 0, Last := 0, Slot := 0 } : T52)) _ hF _ _ b_1 ⟨rfl, rfl, rfl, rfl, trivial⟩ hs
                       · refine rn 1 rfl ?_
                         cases hF
                         exact rD (rlt rl0) rfl
/-! ### 19: paddock/paddockref10.Right -/
def O19_5o1 : List AOp := q 28 (.mv 27) :: (q 29 (.faddr 2 1)).n 28 :: (q 30 (.load1 29)).n 28 :: (q 31 (.len 30)).n 28 :: (q 32 (.binI .gtr 31 (ki 16384))).n 28 :: q 33 (.pick 28 (.c (.bool true)) 32) :: []
def O19_5o0 : List AOp := q 4 (.faddr 0 1) :: q 5 (.load1 4) :: q 6 (.binI .lss 5 (ki 0)) :: q 7 (.mv 6) :: (q 8 (.faddr 0 1)).n 7 :: (q 9 (.load1 8)).n 7 :: (q 10 (.binI .gtr 9 (ki 99))).n 7 :: q 11 (.pick 7 (.c (.bool true)) 10) :: q 12 (.mv 11) :: (q 13 (.faddr 1 1)).n 12 :: (q 14 (.load1 13)).n 12 :: (q 15 (.binI .lss 14 (ki 0))).n 12 :: q 16 (.pick 12 (.c (.bool true)) 15) :: q 17 (.mv 16) :: (q 18 (.faddr 1 1)).n 17 :: (q 19 (.load1 18)).n 17 :: (q 20 (.binI .gtr 19 (ki 16384))).n 17 :: q 21 (.pick 17 (.c (.bool true)) 20) :: q 22 (.mv 21) :: (q 23 (.faddr 2 1)).n 22 :: (q 24 (.load1 23)).n 22 :: (q 25 (.len 24)).n 22 :: (q 26 (.binI .lss 25 (ki 1))).n 22 :: q 27 (.pick 22 (.c (.bool true)) 26) :: O19_5o1
def C19_27 : ACode := .s (.ops [q 2 (.mv (.c (.bool false)))]) .ret
def C19_16 : ACode := .s (.s (.ops [q 34 (.mv 3), q 35 (.faddr 2 1), q 36 (.load1 35), q 37 (.len 36), q 38 (.binI .lss 34 37)]) (.cond 38 .skip (.exit 0))) (.s (.block 1 (.s (.draw [] 0 0 [q 41 (.loadN 3 1), q 42 (.faddr 2 1), q 43 (.load1 42), q 44 (.mv 3), q 45 (.iaddrL 9 43 44), q 46 (.loadN 9 45), q 47 (.mv 3), q 48 (.faddr 2 1), q 49 (.load1 48), q 50 (.len 49), q 51 (.binI .sub 50 (ki 1)), q 52 (.binI .eql 47 51)] [qc 53 34 [41, 46, 52], q 54 (.un .not 53)]) (.cond 54 C19_27 .skip))) (.ops [q 39 (.mv 3), q 40 (.binI .add 39 (ki 1)), q 3 (.mv 40)]))
def C19_32 : ACode := .s (.ops [q 2 (.mv (.c (.bool true)))]) .ret
def C19_1 : ACode := .s (.ops [q 1 (.boxD 3 0), q 2 (.mv (.c (.bool false)))]) (.s (.s (.ops O19_5o0) (.cond 33 (.s (.ops [q 2 (.mv (.c (.bool false)))]) .ret) .skip)) (.s (.s (.ops [q 3 (.mv (ki 0))]) (.block 0 (.loop C19_16))) C19_32))
def R19 : List RA := [(.tmp 2)]
theorem k19 : compF Try.prog (muL [1]) 19 = some ⟨55, C19_1, R19⟩ := by kernel_rfl
noncomputable abbrev X19 (r : Bool) : Cx := cD Try.prog noG 55 R19 (AV.bool r) [1]
inductive St19 where
 | p1 (p : T34) (i : Int)
noncomputable def G19 : St19 → Option Bool
 | .p1 p i =>
  (if (decide (i < ((ls p.Code).length : Int))) = true then
   (ix (ls p.Code) i >>= fun v_8 =>
    (F34 p v_8 (i == (IntKind.wrap .i64 (((ls p.Code).length : Int) - 1))) >>= fun r_10 =>
     (if (!r_10) = true then
      (some false)
     else
      (G19 (.p1 p (IntKind.wrap .i64 (i + 1)))))))
  else
   (some true))
 partial_fixpoint
def M19 (x : St19) (r : Bool) : Prop := match x with
 | .p1 p i => ∀ (tm : Fr) (st : Store), Frm tm [(1, .dptr (c34 p)), (3, AV.int .i64 i)] → SH st [] → W (X19 r) [.lp C19_16, .blk 0, .code C19_32] tm st
theorem w19 : ∀ (x : St19) (r : Bool), G19 x = some r → M19 x r := by
 refine G19.partial_correctness (M19) ?_
 intro g ih x r hF
 cases x with
 | p1 p i =>
  dsimp only at hF
  intro tm st hf hs
  refine en hf ?_
  refine lp ?_
  refine rn 1 rfl ?_
  refine W.o (e_faddrD rfl) ?_
  refine W.o (l1D rfl rfl) ?_
  refine W.o (e_len (rd_V rfl)) ?_
  refine rn 1 rfl ?_
  refine ci hF rfl (fun c_7 hF => ?_) (fun c_7 hF => ?_)
  · refine rn 0 rfl ?_
    have h0 := hs
    refine dr0 ?_
    refine de rfl (lND (s := c34 p) rfl rfl rfl) ?_
    refine de rfl (e_faddrD rfl) ?_
    refine de rfl (l1D rfl rfl) ?_
    obtain ⟨v_8, g_9, hF⟩ := bind_some hF
    refine dn 1 rfl ?_
    refine de rfl (e_iaddrL (rd_V rfl) rfl g_9) ?_
    refine de rfl (lND (s := c52 v_8) rfl rfl rfl) ?_
    refine dn 1 rfl ?_
    refine de rfl (e_faddrD rfl) ?_
    refine de rfl (l1D rfl rfl) ?_
    refine de rfl (e_len (rd_V rfl)) ?_
    refine dn 2 rfl ?_
    refine dz ?_
    obtain ⟨r_10, g_11, hF⟩ := bind_some hF
    refine df (d34 p v_8 (i == (IntKind.wrap .i64 (((ls p.Code).length : Int) - 1))) _ g_11) rfl ?_
    refine rn 1 rfl ?_
    refine ci hF rfl (fun c_12 hF => ?_) (fun c_12 hF => ?_)
    · refine rn 1 rfl ?_
      cases hF
      exact rD (rlt rl0) rfl
    · refine rn 3 rfl ?_
      exact ih (.p1 p (IntKind.wrap .i64 (i + 1))) _ hF _ _ ⟨rfl, rfl, trivial⟩ hs
  · refine rn 1 rfl ?_
    cases hF
    exact rD (rlt rl0) rfl
noncomputable def F19 (p : T34) : Option Bool :=
 (if (decide (p.Groups < 0)) = true then
  (some false)
 else
  (if (decide (p.Groups > 99)) = true then
   (some false)
  else
   (if (decide (p.Slots < 0)) = true then
    (some false)
   else
    (if (decide (p.Slots > 16384)) = true then
     (some false)
    else
     (if (decide (((ls p.Code).length : Int) < 1)) = true then
      (some false)
     else
      (if (decide (((ls p.Code).length : Int) > 16384)) = true then
       (some false)
      else
       (G19 (.p1 p 0))))))))
theorem d19 (p : T34) (r : Bool) (hF : F19 p = some r) : DFun Try.prog noG 19 [v34 p] (AV.bool r) := by
 unfold F19 at hF
 refine bD k19 rfl ?_
 have hs : SH [] [] := SH.nil
 generalize ([] : Store) = st at hs ⊢
 refine rn 0 rfl ?_
 refine W.o (e_boxD (cs := c34 p) rfl rfl (c34_one _)) ?_
 refine rn 1 rfl ?_
 refine W.o (e_faddrD rfl) ?_
 refine W.o (l1D rfl rfl) ?_
 refine rn 2 rfl ?_
 refine bi hF (fun c_1 hF => ?_) (fun c_1 hF => ?_)
 · refine wfx 7 rfl c_1 ?_
   refine rn 26 rfl ?_
   refine ct rfl rfl ?_
   refine rn 1 rfl ?_
   cases hF
   exact rD (rlt rl0) rfl
 · refine wfx 7 rfl c_1 ?_
   refine W.on rfl rfl ?_
   refine W.o (e_faddrD rfl) ?_
   refine W.on rfl rfl ?_
   refine W.o (l1D rfl rfl) ?_
   refine rn 3 rfl ?_
   refine bi hF (fun c_2 hF => ?_) (fun c_2 hF => ?_)
   · refine wfx 12 rfl c_2 ?_
     refine rn 21 rfl ?_
     refine ct rfl rfl ?_
     refine rn 1 rfl ?_
     cases hF
     exact rD (rlt rl0) rfl
   · refine wfx 12 rfl c_2 ?_
     refine W.on rfl rfl ?_
     refine W.o (e_faddrD rfl) ?_
     refine W.on rfl rfl ?_
     refine W.o (l1D rfl rfl) ?_
     refine rn 3 rfl ?_
     refine bi hF (fun c_3 hF => ?_) (fun c_3 hF => ?_)
     · refine wfx 17 rfl c_3 ?_
       refine rn 16 rfl ?_
       refine ct rfl rfl ?_
       refine rn 1 rfl ?_
       cases hF
       exact rD (rlt rl0) rfl
     · refine wfx 17 rfl c_3 ?_
       refine W.on rfl rfl ?_
       refine W.o (e_faddrD rfl) ?_
       refine W.on rfl rfl ?_
       refine W.o (l1D rfl rfl) ?_
       refine rn 3 rfl ?_
       refine bi hF (fun c_4 hF => ?_) (fun c_4 hF => ?_)
       · refine wfx 22 rfl c_4 ?_
         refine rn 11 rfl ?_
         refine ct rfl rfl ?_
         refine rn 1 rfl ?_
         cases hF
         exact rD (rlt rl0) rfl
       · refine wfx 22 rfl c_4 ?_
         refine W.on rfl rfl ?_
         refine W.o (e_faddrD rfl) ?_
         refine W.on rfl rfl ?_
         refine W.o (l1D rfl rfl) ?_
         refine W.on rfl rfl ?_
         refine W.o (e_len (rd_V rfl)) ?_
         refine rn 3 rfl ?_
         refine bi hF (fun c_5 hF => ?_) (fun c_5 hF => ?_)
         · refine wfx 28 rfl c_5 ?_
           refine rn 5 rfl ?_
           refine ct rfl rfl ?_
           refine rn 1 rfl ?_
           cases hF
           exact rD (rlt rl0) rfl
         · refine wfx 28 rfl c_5 ?_
           refine W.on rfl rfl ?_
           refine W.o (e_faddrD rfl) ?_
           refine W.on rfl rfl ?_
           refine W.o (l1D rfl rfl) ?_
           refine W.on rfl rfl ?_
           refine W.o (e_len (rd_V rfl)) ?_
           refine rn 2 rfl ?_
           refine ci hF rfl (fun c_6 hF => ?_) (fun c_6 hF => ?_)
           · refine rn 1 rfl ?_
             cases hF
             exact rD (rlt rl0) rfl
           · refine rn 1 rfl ?_
             exact w19 (.p1 p 0) _ hF _ _ ⟨rfl, rfl, trivial⟩ hs
/-! ### 35: paddock/paddockref10.Error -/
def C35_28 : ACode := .cond 22 (.s (.ops [q 2 (.mv (ki 101))]) .ret) .skip
def C35_18 : ACode := .s (.s (.ops [q 9 (.mv 4), q 10 (.faddr 2 1), q 11 (.load1 10), q 12 (.len 11), q 13 (.binI .lss 9 12)]) (.cond 13 .skip (.exit 0))) (.s (.block 1 (.s (.ops [q 16 (.faddr 2 1), q 17 (.load1 16), q 18 (.mv 4), q 19 (.iaddrL 9 17 18), q 20 (.faddr 0 19), q 21 (.load1 20), q 22 (.binI .eql 21 (ku 9))]) C35_28)) (.ops [q 14 (.mv 4), q 15 (.binI .add 14 (ki 1)), q 4 (.mv 15)]))
def C35_34 : ACode := .s (.ops [q 2 (.mv (ki 0))]) .ret
def C35_1 : ACode := .s (.ops [q 1 (.boxD 3 0), q 2 (.mv (ki 0))]) (.s (.ops [q 5 (.loadN 3 1), qc 6 19 [5], q 3 (.mv 6)]) (.s (.s (.ops [q 7 (.mv 3), q 8 (.un .not 7)]) (.cond 8 (.s (.ops [q 2 (.mv (ki 100))]) .ret) .skip)) (.s (.s (.ops [q 4 (.mv (ki 0))]) (.block 0 (.loop C35_18))) C35_34)))
def R35 : List RA := [(.tmp 2)]
theorem k35 : compF Try.prog (muL [1]) 35 = some ⟨23, C35_1, R35⟩ := by kernel_rfl
noncomputable abbrev X35 (r : Int) : Cx := cD Try.prog noG 23 R35 (AV.int .i64 r) [1]
inductive St35 where
 | p1 (p : T34) (i : Int)
noncomputable def G35 : St35 → Option Int
 | .p1 p i =>
  (if (decide (i < ((ls p.Code).length : Int))) = true then
   (ix (ls p.Code) i >>= fun v_5 =>
    (if (v_5.Kind == 9) = true then
     (some 101)
    else
     (G35 (.p1 p (IntKind.wrap .i64 (i + 1))))))
  else
   (some 0))
 partial_fixpoint
def M35 (x : St35) (r : Int) : Prop := match x with
 | .p1 p i => ∀ (tm : Fr) (st : Store), Frm tm [(1, .dptr (c34 p)), (4, AV.int .i64 i)] → SH st [] → W (X35 r) [.lp C35_18, .blk 0, .code C35_34] tm st
theorem w35 : ∀ (x : St35) (r : Int), G35 x = some r → M35 x r := by
 refine G35.partial_correctness (M35) ?_
 intro g ih x r hF
 cases x with
 | p1 p i =>
  dsimp only at hF
  intro tm st hf hs
  refine en hf ?_
  refine lp ?_
  refine rn 1 rfl ?_
  refine W.o (e_faddrD rfl) ?_
  refine W.o (l1D rfl rfl) ?_
  refine W.o (e_len (rd_V rfl)) ?_
  refine rn 1 rfl ?_
  refine ci hF rfl (fun c_4 hF => ?_) (fun c_4 hF => ?_)
  · refine rn 0 rfl ?_
    refine W.o (e_faddrD rfl) ?_
    refine W.o (l1D rfl rfl) ?_
    obtain ⟨v_5, g_6, hF⟩ := bind_some hF
    refine rn 1 rfl ?_
    refine W.o (e_iaddrL (rd_V rfl) rfl g_6) ?_
    refine W.o (e_faddrD rfl) ?_
    refine W.o (l1D rfl rfl) ?_
    refine rn 1 rfl ?_
    refine ci hF rfl (fun c_7 hF => ?_) (fun c_7 hF => ?_)
    · refine rn 1 rfl ?_
      cases hF
      exact rD (rlt rl0) rfl
    · refine rn 3 rfl ?_
      exact ih (.p1 p (IntKind.wrap .i64 (i + 1))) _ hF _ _ ⟨rfl, rfl, trivial⟩ hs
  · refine rn 1 rfl ?_
    cases hF
    exact rD (rlt rl0) rfl
noncomputable def F35 (p : T34) : Option Int :=
 (F19 p >>= fun r_1 =>
  (if (!r_1) = true then
   (some 100)
  else
   (G35 (.p1 p 0))))
theorem d35 (p : T34) (r : Int) (hF : F35 p = some r) : DFun Try.prog noG 35 [v34 p] (AV.int .i64 r) := by
 unfold F35 at hF
 refine bD k35 rfl ?_
 have hs : SH [] [] := SH.nil
 generalize ([] : Store) = st at hs ⊢
 refine rn 0 rfl ?_
 refine W.o (e_boxD (cs := c34 p) rfl rfl (c34_one _)) ?_
 refine rn 1 rfl ?_
 refine W.o (lND (s := c34 p) rfl rfl rfl) ?_
 obtain ⟨r_1, g_2, hF⟩ := bind_some hF
 refine df (d19 p _ g_2) rfl ?_
 refine rn 3 rfl ?_
 refine ci hF rfl (fun c_3 hF => ?_) (fun c_3 hF => ?_)
 · refine rn 1 rfl ?_
   cases hF
   exact rD (rlt rl0) rfl
 · refine rn 1 rfl ?_
   exact w35 (.p1 p 0) _ hF _ _ ⟨rfl, rfl, trivial⟩ hs
/-! ### 45: paddock/paddockref10.into -/
def C45_58 : ACode := .s (.ops [q 78 (.mv 4), q 79 (.mv 3), q 80 (.lenS 79), q 81 (.binI .eql 78 80)]) (.cond 81 (.ops [q 82 (.mv 10), q 83 (.mv 11), q 84 (.binI .add 83 (ki 1)), q 85 (.bslice 1 1 false [(.int .i64 0)] [(0, (1, 84))] false), q 86 (.app 1 8 82 85), q 10 (.mv 86)]) .skip)
def C45_28 : ACode := .s (.ops [q 41 (.faddr 0 12), q 42 (.load1 41)]) (.block 2 (.s (.s (.ops [q 49 (.binI .eql 42 (ku 1)), q 48 (.mv 49)]) (.cond 48 .skip (.ops [q 50 (.binI .eql 42 (ku 12)), q 48 (.mv 50)]))) (.cond 48 .skip (.s (.ops [q 52 (.binI .eql 42 (ku 2)), q 51 (.mv 52)]) (.cond 51 (.ops [q 53 (.mv 10), q 54 (.mv 11), q 55 (.binI .add 54 (ki 1)), q 56 (.faddr 5 12), q 57 (.load1 56), q 58 (.bslice 1 2 false [(.int .i64 0)] [(0, (1, 55)), (1, (1, 57))] false), q 59 (.app 1 8 53 58), q 10 (.mv 59)]) (.s (.ops [q 61 (.binI .eql 42 (ku 3)), q 60 (.mv 61)]) (.cond 60 (.ops [q 62 (.mv 10), q 63 (.faddr 5 12), q 64 (.load1 63), q 65 (.bslice 1 1 false [(.int .i64 0)] [(0, (1, 64))] false), q 66 (.app 1 8 62 65), q 10 (.mv 66)]) (.s (.ops [q 68 (.binI .eql 42 (ku 10)), q 67 (.mv 68)]) (.cond 67 (.s (.ops [q 69 (.mv 4), q 70 (.binI .eql 69 (ki 0))]) (.cond 70 (.ops [q 71 (.mv 10), q 72 (.mv 11), q 73 (.binI .add 72 (ki 1)), q 74 (.bslice 1 1 false [(.int .i64 0)] [(0, (1, 73))] false), q 75 (.app 1 8 71 74), q 10 (.mv 75)]) .skip)) (.s (.ops [q 77 (.binI .eql 42 (ku 11)), q 76 (.mv 77)]) (.cond 76 C45_58 (.ops [q 43 (.mv 10), q 44 (.mv 11), q 45 (.binI .add 44 (ki 1)), q 46 (.bslice 1 1 false [(.int .i64 0)] [(0, (1, 45))] false), q 47 (.app 1 8 43 46), q 10 (.mv 47)]))))))))))))
def C45_7 : ACode := .s (.s (.ops [q 15 (.mv 10), q 16 (.len 15), q 17 (.binI .gtr 16 (ki 0))]) (.cond 17 .skip (.exit 0))) (.block 1 (.s (.ops [q 18 (.mv 10), q 19 (.mv 10), q 20 (.len 19), q 21 (.binI .sub 20 (ki 1)), q 22 (.iaddrL 1 18 21), q 23 (.load1 22), q 11 (.mv 23)]) (.s (.ops [q 24 (.mv 10), q 25 (.mv 10), q 26 (.len 25), q 27 (.binI .sub 26 (ki 1)), q 28 (.slL 1 24 .none (.some 27)), q 10 (.mv 28)]) (.s (.s (.ops [q 29 (.mv 1), q 30 (.mv 11), q 31 (.iaddrL 1 29 30), q 32 (.load1 31)]) (.cond 32 (.exit 1) .skip)) (.s (.ops [q 33 (.mv 1), q 34 (.mv 11), q 35 (.iaddrL 1 33 34), q0 (.store 1 35 (.c (.bool true)))]) (.s (.ops [q 36 (.faddr 2 5), q 37 (.load1 36), q 38 (.mv 11), q 39 (.iaddrL 9 37 38), q 40 (.loadN 9 39), q 12 (.alloc [(.int .u8 0), (.int .u64 0), (.int .u64 0), (.int .u64 0), (.int .u64 0), (.int .i64 0), (.int .i64 0), (.int .i64 0), (.int .i64 0)]), q0 (.store 9 12 40)]) C45_28))))))
def C45_1 : ACode := .s (.ops [q 5 (.boxD 3 0)]) (.s (.ops [q 13 (.mv 2), q 14 (.bslice 1 1 false [(.int .i64 0)] [(0, (1, 13))] false), q 10 (.mv 14)]) (.block 0 (.loop C45_7)))
def R45 : List RA := []
theorem k45 : compF Try.prog (muL [5]) 45 = some ⟨87, C45_1, R45⟩ := by kernel_rfl
noncomputable abbrev X45 (r : Unit) : Cx := cD Try.prog noG 87 R45 (AV.tup []) [5]
inductive St45 where
 | p1 (in_ : Sl Bool) (s : Str) (place : Int) (p : T34) (todo : Sl Int)
noncomputable def G45 : St45 → Option Unit
 | .p1 in_ s place p todo =>
  (if (decide (((ls todo).length : Int) > 0)) = true then
   (ix (ls todo) (IntKind.wrap .i64 (((ls todo).length : Int) - 1)) >>= fun v_3 =>
    (scut todo 0 (IntKind.wrap .i64 (((ls todo).length : Int) - 1)) >>= fun w_5 =>
     (ix (ls in_) v_3 >>= fun v_7 =>
      (none : Option Unit))))
  else
   (some ()))
def M45 (x : St45) (r : Unit) : Prop := match x with
 | .p1 in_ s place p todo => ∀ (tm : Fr) (st : Store) (io0 : Nat), Frm tm [(1, slV 1 AV.bool in_), (3, AV.str s), (4, AV.int .i64 place), (5, .dptr (c34 p)), (10, ownV 1 (AV.int .i64) todo io0)] → SH st [ownA io0 todo] → W (X45 r) [.lp C45_7, .blk 0] tm st
theorem w45 : ∀ (x : St45) (r : Unit), G45 x = some r → M45 x r := by
 intro x r hF
 cases x with
 | p1 in_ s place p todo =>
  dsimp only [G45] at hF
  intro tm st io0 hf hs
  refine en hf ?_
  refine lp ?_
  refine rn 1 rfl ?_
  refine W.o (e_len (rd_W (o := todo) (id := io0) rfl)) ?_
  refine rn 1 rfl ?_
  refine ci hF rfl (fun c_2 hF => ?_) (fun c_2 hF => ?_)
  · refine rn 2 rfl ?_
    refine W.o (e_len (rd_W (o := todo) (id := io0) rfl)) ?_
    obtain ⟨v_3, g_4, hF⟩ := bind_some hF
    refine rn 1 rfl ?_
    refine W.o (e_iaddrL (rd_W (o := todo) (id := io0) rfl) rfl g_4) ?_
    refine W.o (l1D rfl rfl) ?_
    refine rn 3 rfl ?_
    refine W.o (e_len (rd_W (o := todo) (id := io0) rfl)) ?_
    obtain ⟨w_5, g_6, hF⟩ := bind_some hF
    refine rn 1 rfl ?_
    refine W.o (e_slLh (rd_W (o := todo) (id := io0) rfl) rfl g_6) ?_
    obtain ⟨v_7, g_8, hF⟩ := bind_some hF
    refine rn 3 rfl ?_
    refine W.o (e_iaddrL (rd_V rfl) rfl g_8) ?_
    refine W.o (l1D rfl rfl) ?_
    cases hF
  · refine rn 0 rfl ?_
    cases hF
    exact eD rl0 rfl
noncomputable def F45 (p : T34) (in_ : Sl Bool) (at_ : Int) (s : Str) (place : Int) : Option Unit :=
 (G45 (.p1 in_ s place p (some ([at_] : List Int))))
theorem d45 (p : T34) (in_ : Sl Bool) (at_ : Int) (s : Str) (place : Int) (r : Unit) (hF : F45 p in_ at_ s place = some r) : DFun Try.prog noG 45 [v34 p, slV 1 AV.bool in_, AV.int .i64 at_, AV.str s, AV.int .i64 place] (AV.tup []) := by
 unfold F45 at hF
 refine bD k45 rfl ?_
 have hs : SH [] [] := SH.nil
 generalize ([] : Store) = st at hs ⊢
 refine rn 0 rfl ?_
 refine W.o (e_boxD (cs := c34 p) rfl rfl (c34_one _)) ?_
 refine rn 1 rfl ?_
 refine bs (f := AV.int .i64) ([at_] : List Int) hs rfl rfl rfl rfl fun st b_1 hs => ?_
 refine rn 1 rfl ?_
 exact w45 (.p1 in_ s place p (some ([at_] : List Int))) _ hF _ _ b_1 ⟨rfl, rfl, rfl, rfl, rfl, trivial⟩ hs
/-! ### 36: paddock/paddockref10.ends -/
def C36_18 : ACode := .cond 30 (.ops [q 31 (.mv 7), q 32 (.mv 9), q 33 (.bslice 1 1 false [(.int .i64 0)] [(0, (1, 32))] false), q 34 (.app 1 8 31 33), q 7 (.mv 34)]) .skip
def C36_22 : ACode := .s (.ops [q 35 (.mv 9), q 36 (.mv 1), q 37 (.lenS 36), q 38 (.binI .eql 35 37)]) (.cond 38 (.s (.ops [q 39 (.mv 7), q 6 (.mv 39)]) .ret) .skip)
def O36_47q1 : List AOp := (q 74 (.load1 73)).y 63 :: (q 75 (.mv 1)).y 63 :: (q 76 (.mv 9)).y 63 :: (q 77 (.ixS 75 76)).y 63 :: (q 78 (.binI .rem 77 (ku 64))).y 63 :: (q 79 (.binI .shr 74 78)).y 63 :: (q 80 (.binI .and 79 (.c (.int .u64 1)))).y 63 :: (q 81 (.binI .eql 80 (.c (.int .u64 1)))).y 63 :: q 82 (.pick 63 81 (.c (.bool false))) :: []
def O36_47q0 : List AOp := q 50 (.mv 8) :: q 51 (.mv 12) :: q 52 (.iaddrL 1 50 51) :: q 53 (.load1 52) :: q 54 (.mv 53) :: (q 55 (.faddr 2 3)).y 54 :: (q 56 (.load1 55)).y 54 :: (q 57 (.mv 12)).y 54 :: (q 58 (.iaddrL 9 56 57)).y 54 :: (q 59 (.faddr 0 58)).y 54 :: (q 60 (.load1 59)).y 54 :: (q 61 (.binI .eql 60 (ku 1))).y 54 :: q 62 (.pick 54 61 (.c (.bool false))) :: q 63 (.mv 62) :: (q 64 (.faddr 2 3)).y 63 :: (q 65 (.load1 64)).y 63 :: (q 66 (.mv 12)).y 63 :: (q 67 (.mv 1)).y 63 :: (q 68 (.mv 9)).y 63 :: (q 69 (.ixS 67 68)).y 63 :: (q 70 (.binI .quo 69 (ku 64))).y 63 :: (q 71 (.iaddrL 9 65 66)).y 63 :: (q 72 (.faddr 1 71)).y 63 :: (q 73 (.iaddrA 4 1 72 70)).y 63 :: O36_47q1
def C36_29 : ACode := .s (.ops [q 40 (.faddr 2 3), q 41 (.load1 40), q 42 (.len 41), q 43 (.mkslice 1 1 [(.bool false)] 42 42 true), q 10 (.mv 43)]) (.s (.ops [q 11 (.mv (.c (.bool false)))]) (.s (.s (.ops [q 12 (.mv (ki 0))]) (.block 2 (.loop (.s (.s (.ops [q 44 (.mv 12), q 45 (.mv 8), q 46 (.len 45), q 47 (.binI .lss 44 46)]) (.cond 47 .skip (.exit 2))) (.s (.block 3 (.s (.draw [] 0 0 O36_47q0 []) (.cond 82 (.s (.ops [q 11 (.mv (.c (.bool true)))]) (.ops [q 83 (.loadN 3 3), q 84 (.mv 10), q 85 (.mv 12), q 86 (.binI .add 85 (ki 1)), q 87 (.mv 1), q 88 (.mv 9), q 89 (.binI .add 88 (ki 1)), qc 90 45 [83, 84, 86, 87, 89]])) .skip))) (.ops [q 48 (.mv 12), q 49 (.binI .add 48 (ki 1)), q 12 (.mv 49)])))))) (.s (.s (.ops [q 91 (.mv 11), q 92 (.un .not 91)]) (.cond 92 (.s (.ops [q 93 (.mv 7), q 6 (.mv 93)]) .ret) .skip)) (.ops [q 94 (.mv 10), q 8 (.mv 94)]))))
def C36_1 : ACode := .s (.ops [q 3 (.boxD 3 0), q 6 (.mv (.c .nils))]) (.s (.ops [q 7 (.mv (.c .nils))]) (.s (.ops [q 13 (.faddr 2 3), q 14 (.load1 13), q 15 (.len 14), q 16 (.mkslice 1 1 [(.bool false)] 15 15 true), q 8 (.mv 16)]) (.s (.ops [q 17 (.loadN 3 3), q 18 (.mv 8), q 19 (.mv 1), q 20 (.mv 2), qc 21 45 [17, 18, (ki 0), 19, 20]]) (.s (.ops [q 22 (.mv 2), q 9 (.mv 22)]) (.block 0 (.loop (.s (.block 1 (.s (.s (.ops [q 25 (.mv 8), q 26 (.mv 8), q 27 (.len 26), q 28 (.binI .sub 27 (ki 1)), q 29 (.iaddrL 1 25 28), q 30 (.load1 29)]) C36_18) (.s C36_22 C36_29))) (.ops [q 23 (.mv 9), q 24 (.binI .add 23 (ki 1)), q 9 (.mv 24)]))))))))
def R36 : List RA := [(.tmp 6)]
theorem k36 : compF Try.prog (muL [3, 16, 43]) 36 = some ⟨95, C36_1, R36⟩ := by kernel_rfl
noncomputable abbrev X36 (r : Sl Int) : Cx := cD Try.prog noG 95 R36 (slV 1 (AV.int .i64) r) [3, 16, 43]
noncomputable def F36 (p : T34) (s : Str) (from_ : Int) : Option (Sl Int) :=
 (if 0 ≤ ((ls p.Code).length : Int) ∧ ((ls p.Code).length : Int) = ((ls p.Code).length : Int) ∧ (1 : Int) * ((ls p.Code).length : Int) ≤ 281474976710656 then
  (none : Option (Sl Int))
 else none)
theorem d36 (p : T34) (s : Str) (from_ : Int) (r : Sl Int) (hF : F36 p s from_ = some r) : DFun Try.prog noG 36 [v34 p, AV.str s, AV.int .i64 from_] (slV 1 (AV.int .i64) r) := by
 unfold F36 at hF
 refine bD k36 rfl ?_
 have hs : SH [] [] := SH.nil
 generalize ([] : Store) = st at hs ⊢
 refine rn 0 rfl ?_
 refine W.o (e_boxD (cs := c34 p) rfl rfl (c34_one _)) ?_
 refine rn 2 rfl ?_
 refine W.o (e_faddrD rfl) ?_
 refine W.o (l1D rfl rfl) ?_
 refine W.o (e_len (rd_V rfl)) ?_
 obtain ⟨g_2, hF⟩ := grd_some hF
 refine mkV (c := cB) (false : Bool) hs rfl rfl rfl g_2 fun st b_1 hs => ?_
 refine rn 1 rfl ?_
 refine W.o (lND (s := c34 p) rfl rfl rfl) ?_
 cases hF
/-! ### 20: paddock/paddockref10.Ends -/
def C20_1 : ACode := .s (.ops [q 3 (.boxD 3 0), q 6 (.mv (.c .nils)), q 7 (.mv (ki 0))]) (.s (.ops [q 9 (.loadN 3 3), qc 10 35 [9], q 8 (.mv 10)]) (.s (.s (.ops [q 11 (.mv 8), q 12 (.binI .neq 11 (ki 0))]) (.cond 12 (.s (.ops [q 13 (.mv 8), q 6 (.mv (.c .nils)), q 7 (.mv 13)]) .ret) .skip)) (.s (.s (.ops [q 14 (.mv 2), q 15 (.binI .lss 14 (ki 0)), q 16 (.mv 15), (q 17 (.mv 2)).n 16, (q 18 (.mv 1)).n 16, (q 19 (.lenS 18)).n 16, (q 20 (.binI .gtr 17 19)).n 16, q 21 (.pick 16 (.c (.bool true)) 20)]) (.cond 21 (.s (.ops [q 6 (.mv (.c .nils)), q 7 (.mv (ki 2))]) .ret) .skip)) (.s (.ops [q 22 (.loadN 3 3), q 23 (.mv 1), q 24 (.mv 2), qc 25 36 [22, 23, 24], q 6 (.mv 25), q 7 (.mv (ki 0))]) .ret))))
def R20 : List RA := [(.tmp 6), (.tmp 7)]
theorem k20 : compF Try.prog (muL [3]) 20 = some ⟨26, C20_1, R20⟩ := by kernel_rfl
noncomputable abbrev X20 (r : Sl Int × Int) : Cx := cD Try.prog noG 26 R20 (AV.tup [slV 1 (AV.int .i64) r.1, AV.int .i64 r.2]) [3]
noncomputable def F20 (p : T34) (s : Str) (from_ : Int) : Option (Sl Int × Int) :=
 (F35 p >>= fun r_1 =>
  (if (r_1 != 0) = true then
   (some (none, r_1))
  else
   (if (decide (from_ < 0)) = true then
    (some (none, 2))
   else
    (if (decide (from_ > ((s).length : Int))) = true then
     (some (none, 2))
    else
     (F36 p s from_ >>= fun r_6 =>
      (some (r_6, 0)))))))
theorem d20 (p : T34) (s : Str) (from_ : Int) (r : Sl Int × Int) (hF : F20 p s from_ = some r) : DFun Try.prog noG 20 [v34 p, AV.str s, AV.int .i64 from_] (AV.tup [slV 1 (AV.int .i64) r.1, AV.int .i64 r.2]) := by
 unfold F20 at hF
 refine bD k20 rfl ?_
 have hs : SH [] [] := SH.nil
 generalize ([] : Store) = st at hs ⊢
 refine rn 0 rfl ?_
 refine W.o (e_boxD (cs := c34 p) rfl rfl (c34_one _)) ?_
 refine rn 2 rfl ?_
 refine W.o (lND (s := c34 p) rfl rfl rfl) ?_
 obtain ⟨r_1, g_2, hF⟩ := bind_some hF
 refine df (d35 p _ g_2) rfl ?_
 refine rn 3 rfl ?_
 refine ci hF rfl (fun c_3 hF => ?_) (fun c_3 hF => ?_)
 · refine rn 3 rfl ?_
   cases hF
   exact rD (rlt (rlt rl0)) rfl
 · refine rn 3 rfl ?_
   refine bi hF (fun c_4 hF => ?_) (fun c_4 hF => ?_)
   · refine wfx 16 rfl c_4 ?_
     refine rn 5 rfl ?_
     refine ct rfl rfl ?_
     refine rn 2 rfl ?_
     cases hF
     exact rD (rlt (rlt rl0)) rfl
   · refine wfx 16 rfl c_4 ?_
     refine rn 5 rfl ?_
     refine ci hF rfl (fun c_5 hF => ?_) (fun c_5 hF => ?_)
     · refine rn 2 rfl ?_
       cases hF
       exact rD (rlt (rlt rl0)) rfl
     · refine rn 0 rfl ?_
       refine W.o (lND (s := c34 p) rfl rfl rfl) ?_
       obtain ⟨r_6, g_7, hF⟩ := bind_some hF
       refine rn 2 rfl ?_
       refine df (d36 p s from_ _ g_7) rfl ?_
       refine rn 2 rfl ?_
       cases hF
       exact rD (rlt (rlt rl0)) rfl
/-! ### 22: paddock/paddockref10.Whole -/
def C22_31 : ACode := .cond 41 .skip (.exit 0)
def C22_28 : ACode := .s (.s (.ops [q 38 (.mv 10), q 39 (.mv 9), q 40 (.len 39), q 41 (.binI .lss 38 40)]) C22_31) (.s (.block 1 (.s (.draw [] 0 0 [q 44 (.mv 9), q 45 (.mv 10), q 46 (.iaddrL 1 44 45), q 47 (.load1 46), q 48 (.faddr 1 5), q 49 (.load1 48), q 50 (.binI .eql 47 49)] []) (.cond 50 (.s (.ops [q 6 (.mv (.c (.bool true))), q 7 (.mv (ki 0))]) .ret) .skip))) (.ops [q 42 (.mv 10), q 43 (.binI .add 42 (ki 1)), q 10 (.mv 43)]))
def C22_44 : ACode := .s (.ops [q 6 (.mv (.c (.bool false))), q 7 (.mv (ki 0))]) .ret
def C22_1 : ACode := .s (.ops [q 3 (.boxD 3 0), q 5 (.boxD 2 2), q 6 (.mv (.c (.bool false))), q 7 (.mv (ki 0))]) (.s (.ops [q 11 (.loadN 3 3), qc 12 35 [11], q 8 (.mv 12)]) (.s (.s (.ops [q 13 (.mv 8), q 14 (.binI .neq 13 (ki 0))]) (.cond 14 (.s (.ops [q 15 (.mv 8), q 6 (.mv (.c (.bool false))), q 7 (.mv 15)]) .ret) .skip)) (.s (.s (.ops [q 16 (.faddr 0 5), q 17 (.load1 16), q 18 (.binI .lss 17 (ki 0)), q 19 (.mv 18), (q 20 (.faddr 1 5)).n 19, (q 21 (.load1 20)).n 19, (q 22 (.faddr 0 5)).n 19, (q 23 (.load1 22)).n 19, (q 24 (.binI .lss 21 23)).n 19, q 25 (.pick 19 (.c (.bool true)) 24), q 26 (.mv 25), (q 27 (.faddr 1 5)).n 26, (q 28 (.load1 27)).n 26, (q 29 (.mv 1)).n 26, (q 30 (.lenS 29)).n 26, (q 31 (.binI .gtr 28 30)).n 26, q 32 (.pick 26 (.c (.bool true)) 31)]) (.cond 32 (.s (.ops [q 6 (.mv (.c (.bool false))), q 7 (.mv (ki 2))]) .ret) .skip)) (.s (.ops [q 33 (.loadN 3 3), q 34 (.mv 1), q 35 (.faddr 0 5), q 36 (.load1 35), qc 37 36 [33, 34, 36], q 9 (.mv 37)]) (.s (.s (.ops [q 10 (.mv (ki 0))]) (.block 0 (.loop C22_28))) C22_44)))))
def R22 : List RA := [(.tmp 6), (.tmp 7)]
theorem k22 : compF Try.prog (muL [3, 5]) 22 = some ⟨51, C22_1, R22⟩ := by kernel_rfl
noncomputable abbrev X22 (r : Bool × Int) : Cx := cD Try.prog noG 51 R22 (AV.tup [AV.bool r.1, AV.int .i64 r.2]) [3, 5]
inductive St22 where
 | p1 (at_ : T56) (l : Sl Int) (i : Int)
noncomputable def G22 : St22 → Option (Bool × Int)
 | .p1 at_ l i =>
  (if (decide (i < ((ls l).length : Int))) = true then
   (ix (ls l) i >>= fun v_10 =>
    (if (v_10 == at_.To) = true then
     (some (true, 0))
    else
     (G22 (.p1 at_ l (IntKind.wrap .i64 (i + 1))))))
  else
   (some (false, 0)))
 partial_fixpoint
def M22 (x : St22) (r : Bool × Int) : Prop := match x with
 | .p1 at_ l i => ∀ (tm : Fr) (st : Store), Frm tm [(5, .dptr (c56 at_)), (9, slV 1 (AV.int .i64) l), (10, AV.int .i64 i)] → SH st [] → W (X22 r) [.lp C22_28, .blk 0, .code C22_44] tm st
theorem w22 : ∀ (x : St22) (r : Bool × Int), G22 x = some r → M22 x r := by
 refine G22.partial_correctness (M22) ?_
 intro g ih x r hF
 cases x with
 | p1 at_ l i =>
  dsimp only at hF
  intro tm st hf hs
  refine en hf ?_
  refine lp ?_
  refine rn 2 rfl ?_
  refine W.o (e_len (rd_V rfl)) ?_
  refine rn 1 rfl ?_
  refine ci hF rfl (fun c_9 hF => ?_) (fun c_9 hF => ?_)
  · refine rn 0 rfl ?_
    have h0 := hs
    refine dr0 ?_
    obtain ⟨v_10, g_11, hF⟩ := bind_some hF
    refine dn 2 rfl ?_
    refine de rfl (e_iaddrL (rd_V rfl) rfl g_11) ?_
    refine de rfl (l1D rfl rfl) ?_
    refine de rfl (e_faddrD rfl) ?_
    refine de rfl (l1D rfl rfl) ?_
    refine dn 1 rfl ?_
    refine dz ?_
    refine rn 0 rfl ?_
    refine ci hF rfl (fun c_12 hF => ?_) (fun c_12 hF => ?_)
    · refine rn 2 rfl ?_
      cases hF
      exact rD (rlt (rlt rl0)) rfl
    · refine rn 3 rfl ?_
      exact ih (.p1 at_ l (IntKind.wrap .i64 (i + 1))) _ hF _ _ ⟨rfl, rfl, rfl, trivial⟩ hs
  · refine rn 2 rfl ?_
    cases hF
    exact rD (rlt (rlt rl0)) rfl
noncomputable def F22 (p : T34) (s : Str) (at_ : T56) : Option (Bool × Int) :=
 (F35 p >>= fun r_1 =>
  (if (r_1 != 0) = true then
   (some (false, r_1))
  else
   (if (decide (at_.From < 0)) = true then
    (some (false, 2))
   else
    (if (decide (at_.To < at_.From)) = true then
     (some (false, 2))
    else
     (if (decide (at_.To > ((s).length : Int))) = true then
      (some (false, 2))
     else
      (F36 p s at_.From >>= fun r_7 =>
       (G22 (.p1 at_ r_7 0))))))))
theorem d22 (p : T34) (s : Str) (at_ : T56) (r : Bool × Int) (hF : F22 p s at_ = some r) : DFun Try.prog noG 22 [v34 p, AV.str s, v56 at_] (AV.tup [AV.bool r.1, AV.int .i64 r.2]) := by
 unfold F22 at hF
 refine bD k22 rfl ?_
 have hs : SH [] [] := SH.nil
 generalize ([] : Store) = st at hs ⊢
 refine rn 0 rfl ?_
 refine W.o (e_boxD (cs := c34 p) rfl rfl (c34_one _)) ?_
 refine W.o (e_boxD (cs := c56 at_) rfl rfl rfl) ?_
 refine rn 2 rfl ?_
 refine W.o (lND (s := c34 p) rfl rfl rfl) ?_
 obtain ⟨r_1, g_2, hF⟩ := bind_some hF
 refine df (d35 p _ g_2) rfl ?_
 refine rn 3 rfl ?_
 refine ci hF rfl (fun c_3 hF => ?_) (fun c_3 hF => ?_)
 · refine rn 3 rfl ?_
   cases hF
   exact rD (rlt (rlt rl0)) rfl
 · refine rn 0 rfl ?_
   refine W.o (e_faddrD rfl) ?_
   refine W.o (l1D rfl rfl) ?_
   refine rn 2 rfl ?_
   refine bi hF (fun c_4 hF => ?_) (fun c_4 hF => ?_)
   · refine wfx 19 rfl c_4 ?_
     refine rn 13 rfl ?_
     refine ct rfl rfl ?_
     refine rn 2 rfl ?_
     cases hF
     exact rD (rlt (rlt rl0)) rfl
   · refine wfx 19 rfl c_4 ?_
     refine W.on rfl rfl ?_
     refine W.o (e_faddrD rfl) ?_
     refine W.on rfl rfl ?_
     refine W.o (l1D rfl rfl) ?_
     refine W.on rfl rfl ?_
     refine W.o (e_faddrD rfl) ?_
     refine W.on rfl rfl ?_
     refine W.o (l1D rfl rfl) ?_
     refine rn 3 rfl ?_
     refine bi hF (fun c_5 hF => ?_) (fun c_5 hF => ?_)
     · refine wfx 26 rfl c_5 ?_
       refine rn 6 rfl ?_
       refine ct rfl rfl ?_
       refine rn 2 rfl ?_
       cases hF
       exact rD (rlt (rlt rl0)) rfl
     · refine wfx 26 rfl c_5 ?_
       refine W.on rfl rfl ?_
       refine W.o (e_faddrD rfl) ?_
       refine W.on rfl rfl ?_
       refine W.o (l1D rfl rfl) ?_
       refine rn 4 rfl ?_
       refine ci hF rfl (fun c_6 hF => ?_) (fun c_6 hF => ?_)
       · refine rn 2 rfl ?_
         cases hF
         exact rD (rlt (rlt rl0)) rfl
       · refine rn 0 rfl ?_
         refine W.o (lND (s := c34 p) rfl rfl rfl) ?_
         refine rn 1 rfl ?_
         refine W.o (e_faddrD rfl) ?_
         refine W.o (l1D rfl rfl) ?_
         obtain ⟨r_7, g_8, hF⟩ := bind_some hF
         refine df (d36 p s at_.From _ g_8) rfl ?_
         refine rn 2 rfl ?_
         exact w22 (.p1 at_ r_7 0) _ hF _ _ ⟨rfl, rfl, rfl, trivial⟩ hs
/-! ### 24: paddock/paddockref10.Match -/
def C24_17 : ACode := .s (.ops [q 26 (.build [(.int .i64 0), (.int .i64 0)] []), q0 (.store 2 6 26), q 7 (.mv (.c (.bool false))), q 8 (.mv (ki 2))]) .ret
def C24_34 : ACode := .s (.ops [q 34 (.loadN 3 3), q 35 (.mv 1), q 36 (.mv 10), qc 37 36 [34, 35, 36], q 11 (.mv 37)]) (.s (.ops [q 38 (.mv 11), q 39 (.len 38), q 40 (.binI .gtr 39 (ki 0))]) (.cond 40 (.s (.ops [q 41 (.mv 10), q 42 (.mv 11), q 43 (.mv 11), q 44 (.len 43), q 45 (.binI .sub 44 (ki 1)), q 46 (.iaddrL 1 42 45), q 47 (.load1 46), q 48 (.build [(.int .i64 0), (.int .i64 0)] [(0, (1, 41)), (1, (1, 47))]), q0 (.store 2 6 48), q 7 (.mv (.c (.bool true))), q 8 (.mv (ki 0))]) .ret) .skip))
def C24_26 : ACode := .s (.s (.ops [q 28 (.mv 10), q 29 (.mv 1), q 30 (.lenS 29), q 31 (.binI .leq 28 30)]) (.cond 31 .skip (.exit 0))) (.s (.block 1 C24_34) (.ops [q 32 (.mv 10), q 33 (.binI .add 32 (ki 1)), q 10 (.mv 33)]))
def C24_44 : ACode := .s (.ops [q 49 (.build [(.int .i64 0), (.int .i64 0)] []), q0 (.store 2 6 49), q 7 (.mv (.c (.bool false))), q 8 (.mv (ki 0))]) .ret
def C24_21 : ACode := .s (.s (.ops [q 27 (.mv 2), q 10 (.mv 27)]) (.block 0 (.loop C24_26))) C24_44
def C24_1 : ACode := .s (.ops [q 3 (.boxD 3 0), q 6 (.alloc [(.int .i64 0), (.int .i64 0)]), q 7 (.mv (.c (.bool false))), q 8 (.mv (ki 0))]) (.s (.ops [q 12 (.loadN 3 3), qc 13 35 [12], q 9 (.mv 13)]) (.s (.s (.ops [q 14 (.mv 9), q 15 (.binI .neq 14 (ki 0))]) (.cond 15 (.s (.ops [q 16 (.build [(.int .i64 0), (.int .i64 0)] []), q 17 (.mv 9), q0 (.store 2 6 16), q 7 (.mv (.c (.bool false))), q 8 (.mv 17)]) .ret) .skip)) (.s (.s (.ops [q 18 (.mv 2), q 19 (.binI .lss 18 (ki 0)), q 20 (.mv 19), (q 21 (.mv 2)).n 20, (q 22 (.mv 1)).n 20, (q 23 (.lenS 22)).n 20, (q 24 (.binI .gtr 21 23)).n 20, q 25 (.pick 20 (.c (.bool true)) 24)]) (.cond 25 C24_17 .skip)) C24_21)))
def R24 : List RA := [(.cellN 6 2), (.tmp 7), (.tmp 8)]
theorem k24 : compF Try.prog (muL [3]) 24 = some ⟨50, C24_1, R24⟩ := by kernel_rfl
noncomputable abbrev X24 (r : T56 × Bool × Int) : Cx := cD Try.prog noG 50 R24 (AV.tup [v56 r.1, AV.bool r.2.1, AV.int .i64 r.2.2]) [3]
inductive St24 where
 | p1 (t6_ : T56)
 | p2 (s : Str) (p : T34) (i : Int) (t6_ : T56)
noncomputable def G24 : St24 → Option (T56 × Bool × Int)
 | .p1 t6_ =>
  (some (({ From := 0, To := 0 } : T56), false, 2))
 | .p2 s p i t6_ =>
  (if (decide (i ≤ ((s).length : Int))) = true then
   (F36 p s i >>= fun r_8 =>
    (if (decide (((ls r_8).length : Int) > 0)) = true then
     (ix (ls r_8) (IntKind.wrap .i64 (((ls r_8).length : Int) - 1)) >>= fun v_11 =>
      (some (({ From := i, To := v_11 } : T56), true, 0)))
    else
     (G24 (.p2 s p (IntKind.wrap .i64 (i + 1)) t6_))))
  else
   (some (({ From := 0, To := 0 } : T56), false, 0)))
 partial_fixpoint
def M24 (x : St24) (r : T56 × Bool × Int) : Prop := match x with
 | .p1 t6_ => ∀ (tm : Fr) (st : Store) (io0 : Nat), Frm tm [(6, .ptr io0 0)] → SH st [pt io0 (.cells (c56 t6_))] → W (X24 r) [.code C24_17, .code C24_21] tm st
 | .p2 s p i t6_ => ∀ (tm : Fr) (st : Store) (io0 : Nat), Frm tm [(1, AV.str s), (3, .dptr (c34 p)), (6, .ptr io0 0), (10, AV.int .i64 i)] → SH st [pt io0 (.cells (c56 t6_))] → W (X24 r) [.lp C24_26, .blk 0, .code C24_44] tm st
theorem w24 : ∀ (x : St24) (r : T56 × Bool × Int), G24 x = some r → M24 x r := by
 refine G24.partial_correctness (M24) ?_
 intro g ih x r hF
 cases x with
 | p1 t6_ =>
  dsimp only at hF
  intro tm st io0 hf hs
  refine en hf ?_
  refine rn 0 rfl ?_
  refine W.o (bR (cs := c56 ({ From := 0, To := 0 } : T56)) rfl rfl) ?_
  refine sr hs 0 rfl rfl rfl (cs' := c56 ({ From := 0, To := 0 } : T56)) rfl rfl fun st hs => ?_
  refine rn 2 rfl ?_
  cases hF
  exact rD (rl_cellN rfl (hs.g 0 rfl) (LR.whole _ _) (c56_len _) (rlt (rlt rl0))) rfl
 | p2 s p i t6_ =>
  dsimp only at hF
  intro tm st io0 hf hs
  refine en hf ?_
  refine lp ?_
  refine rn 4 rfl ?_
  refine ci hF rfl (fun c_7 hF => ?_) (fun c_7 hF => ?_)
  · refine rn 0 rfl ?_
    refine W.o (lND (s := c34 p) rfl rfl rfl) ?_
    obtain ⟨r_8, g_9, hF⟩ := bind_some hF
    refine rn 2 rfl ?_
    refine df (d36 p s i _ g_9) rfl ?_
    refine rn 2 rfl ?_
    refine W.o (e_len (rd_V rfl)) ?_
    refine rn 1 rfl ?_
    refine ci hF rfl (fun c_10 hF => ?_) (fun c_10 hF => ?_)
    · refine rn 3 rfl ?_
      refine W.o (e_len (rd_V rfl)) ?_
      obtain ⟨v_11, g_12, hF⟩ := bind_some hF
      refine rn 1 rfl ?_
      refine W.o (e_iaddrL (rd_V rfl) rfl g_12) ?_
      refine W.o (l1D rfl rfl) ?_
      refine W.o (bR (cs := c56 ({ From := i, To := v_11 } : T56)) rfl rfl) ?_
      refine sr hs 0 rfl rfl rfl (cs' := c56 ({ From := i, To := v_11 } : T56)) rfl rfl fun st hs => ?_
      refine rn 2 rfl ?_
      cases hF
      exact rD (rl_cellN rfl (hs.g 0 rfl) (LR.whole _ _) (c56_len _) (rlt (rlt rl0))) rfl
    · refine rn 3 rfl ?_
      exact ih (.p2 s p (IntKind.wrap .i64 (i + 1)) t6_) _ hF _ _ io0 ⟨rfl, rfl, rfl, rfl, trivial⟩ hs
  · refine rn 0 rfl ?_
    refine W.o (bR (cs := c56 ({ From := 0, To := 0 } : T56)) rfl rfl) ?_
    refine sr hs 0 rfl rfl rfl (cs' := c56 ({ From := 0, To := 0 } : T56)) rfl rfl fun st hs => ?_
    refine rn 2 rfl ?_
    cases hF
    exact rD (rl_cellN rfl (hs.g 0 rfl) (LR.whole _ _) (c56_len _) (rlt (rlt rl0))) rfl
noncomputable def F24 (p : T34) (s : Str) (from_ : Int) : Option (T56 × Bool × Int) :=
 (F35 p >>= fun r_2 =>
  (if (r_2 != 0) = true then
   (some (({ From := 0, To := 0 } : T56), false, r_2))
  else
   (if (decide (from_ < 0)) = true then
    (G24 (.p1 ({ From := 0, To := 0 } : T56)))
   else
    (if (decide (from_ > ((s).length : Int))) = true then
     (G24 (.p1 ({ From := 0, To := 0 } : T56)))
    else
     (G24 (.p2 s p from_ ({ From := 0, To := 0 } : T56)))))))
theorem d24 (p : T34) (s : Str) (from_ : Int) (r : T56 × Bool × Int) (hF : F24 p s from_ = some r) : DFun Try.prog noG 24 [v34 p, AV.str s, AV.int .i64 from_] (AV.tup [v56 r.1, AV.bool r.2.1, AV.int .i64 r.2.2]) := by
 unfold F24 at hF
 refine bD k24 rfl ?_
 have hs : SH [] [] := SH.nil
 generalize ([] : Store) = st at hs ⊢
 refine rn 0 rfl ?_
 refine W.o (e_boxD (cs := c34 p) rfl rfl (c34_one _)) ?_
 refine al hs (cs := c56 ({ From := 0, To := 0 } : T56)) rfl fun st b_1 hs => ?_
 refine rn 2 rfl ?_
 refine W.o (lND (s := c34 p) rfl rfl rfl) ?_
 obtain ⟨r_2, g_3, hF⟩ := bind_some hF
 refine df (d35 p _ g_3) rfl ?_
 refine rn 3 rfl ?_
 refine ci hF rfl (fun c_4 hF => ?_) (fun c_4 hF => ?_)
 · refine rn 0 rfl ?_
   refine W.o (bR (cs := c56 ({ From := 0, To := 0 } : T56)) rfl rfl) ?_
   refine rn 1 rfl ?_
   refine sr hs 0 rfl rfl rfl (cs' := c56 ({ From := 0, To := 0 } : T56)) rfl rfl fun st hs => ?_
   refine rn 2 rfl ?_
   cases hF
   exact rD (rl_cellN rfl (hs.g 0 rfl) (LR.whole _ _) (c56_len _) (rlt (rlt rl0))) rfl
 · refine rn 3 rfl ?_
   refine bi hF (fun c_5 hF => ?_) (fun c_5 hF => ?_)
   · refine wfx 20 rfl c_5 ?_
     refine rn 5 rfl ?_
     refine ct rfl rfl ?_
     exact w24 (.p1 ({ From := 0, To := 0 } : T56)) _ hF _ _ b_1 ⟨rfl, trivial⟩ hs
   · refine wfx 20 rfl c_5 ?_
     refine rn 5 rfl ?_
     refine ci hF rfl (fun c_6 hF => ?_) (fun c_6 hF => ?_)
     · exact w24 (.p1 ({ From := 0, To := 0 } : T56)) _ hF _ _ b_1 ⟨rfl, trivial⟩ hs
     · refine rn 2 rfl ?_
       exact w24 (.p2 s p from_ ({ From := 0, To := 0 } : T56)) _ hF _ _ b_1 ⟨rfl, rfl, rfl, rfl, trivial⟩ hs
/-! ### 8: paddock/paddocklaw10.begins -/
def O8_14o1 : List AOp := (q 55 (.loadN 2 7)).y 54 :: (q 56 (.build [(.int .i64 0), (.int .i64 0)] [(0, (1, (ki 1))), (1, (1, (ki 3)))])).y 54 :: (q 57 (.eqA false [.i, .i] 55 56)).y 54 :: q 58 (.pick 54 57 (.c (.bool false))) :: q 0 (.mv 58) :: []
def O8_14o0 : List AOp := q 31 (.mv 4) :: q 32 (.binI .eql 31 (ki 0)) :: q 33 (.mv 32) :: (q 34 (.mv 6)).y 33 :: (q 35 (.binI .eql 34 (ki 0))).y 33 :: q 36 (.pick 33 35 (.c (.bool false))) :: q 37 (.mv 36) :: (q 38 (.mv 5)).y 37 :: (q 39 (.binI .eql 38 (ki 7))).y 37 :: q 40 (.pick 37 39 (.c (.bool false))) :: q 41 (.mv 40) :: (q 42 (.faddr 2 3)).y 41 :: (q 43 (.load1 42)).y 41 :: (q 44 (.len 43)).y 41 :: (q 45 (.binI .eql 44 (ki 7))).y 41 :: q 46 (.pick 41 45 (.c (.bool false))) :: q 47 (.mv 46) :: (q 48 (.mv 9)).y 47 :: (q 49 (.binI .eql 48 (ki 0))).y 47 :: q 50 (.pick 47 49 (.c (.bool false))) :: q 51 (.mv 50) :: (q 52 (.mv 8)).y 51 :: q 53 (.pick 51 52 (.c (.bool false))) :: q 54 (.mv 53) :: O8_14o1
def C8_1 : ACode := .s (.ops [q 0 (.mv (.c (.bool false)))]) (.s (.ops [q 10 (.build [(.int .u64 0), (.int .u64 0), (.int .u64 0), (.int .u64 0)] [(0, (1, (.c (.int .u64 0)))), (1, (1, (.c (.int .u64 8589934592))))]), q 1 (.alloc [(.int .u64 0), (.int .u64 0), (.int .u64 0), (.int .u64 0)]), q0 (.store 4 1 10)]) (.s (.ops [q 11 (.loadN 4 1), q 12 (.build [(.int .u8 0), (.int .u64 0), (.int .u64 0), (.int .u64 0), (.int .u64 0), (.int .i64 0), (.int .i64 0), (.int .i64 0), .nils] [(0, (1, (ku 2))), (1, (4, 11))]), q 13 (.bslD 9 1 true [(.int .u8 0), (.int .u64 0), (.int .u64 0), (.int .u64 0), (.int .u64 0), (.int .i64 0), (.int .i64 0), (.int .i64 0), .nils] [(0, (9, 12))]), q 14 (.build [(.int .u8 0), (.int .u64 0), (.int .u64 0), (.int .u64 0), (.int .u64 0), (.int .i64 0), (.int .i64 0), (.int .i64 0), .nils] [(0, (1, (ku 5))), (5, (1, (ki 1))), (6, (1, (ki (-1)))), (8, (1, 13))]), q 2 (.alloc [(.int .u8 0), (.int .u64 0), (.int .u64 0), (.int .u64 0), (.int .u64 0), (.int .i64 0), (.int .i64 0), (.int .i64 0), .nils]), q0 (.store 9 2 14)]) (.s (.ops [q 16 (.loadN 9 2), qc 17 10 [16], q 15 (.mv 17), q 18 (.extract 15 0), q 19 (.extract 15 1), q 3 (.alloc [(.int .i64 0), (.int .i64 0), .nils]), q0 (.store 3 3 18), q 4 (.mv 19)]) (.s (.ops [q 21 (.loadN 9 2), qc 22 9 [21], q 20 (.mv 22), q 23 (.extract 20 0), q 24 (.extract 20 1), q 5 (.mv 23), q 6 (.mv 24)]) (.s (.ops [q 26 (.loadN 3 3), qc 27 23 [26, (.c (.str [98, 97, 97])), (ki 0)], q 25 (.mv 27), q 28 (.extract 25 0), q 29 (.extract 25 1), q 30 (.extract 25 2), q 7 (.alloc [(.int .i64 0), (.int .i64 0)]), q0 (.store 2 7 28), q 8 (.mv 29), q 9 (.mv 30)]) (.s (.ops O8_14o0) .ret))))))
def R8 : List RA := [(.tmp 0)]
theorem k8 : compF Try.prog (muL [13]) 8 = some ⟨59, C8_1, R8⟩ := by kernel_rfl
noncomputable abbrev X8 (r : Bool) : Cx := cD Try.prog noG 59 R8 (AV.bool r) [13]
noncomputable def F8  : Option Bool :=
 (F10 ({ Kind := 5, Set := (Arr.rep 4 0), Min := 1, Max := (-1), Group := 0, Kids := (some ([({ Kind := 2, Set := (aset (aset (Arr.rep 4 0) 0 0) 1 8589934592), Min := 0, Max := 0, Group := 0, Kids := none } : T27)] : List T27)) } : T27) >>= fun r_3 =>
  (F9 ({ Kind := 5, Set := (Arr.rep 4 0), Min := 1, Max := (-1), Group := 0, Kids := (some ([({ Kind := 2, Set := (aset (aset (Arr.rep 4 0) 0 0) 1 8589934592), Min := 0, Max := 0, Group := 0, Kids := none } : T27)] : List T27)) } : T27) >>= fun r_6 =>
   (F23 r_3.1 ([98, 97, 97] : Str) 0 >>= fun r_8 =>
    (if (r_3.2 == 0) = true then
     (if (r_6.2 == 0) = true then
      (if (r_6.1 == 7) = true then
       (if (((ls r_3.1.Code).length : Int) == 7) = true then
        (if (r_8.2.2 == 0) = true then
         (if r_8.2.1 = true then
          (some (decide (r_8.1 = ({ From := 1, To := 3 } : T56))))
         else
          (some false))
        else
         (some false))
       else
        (some false))
      else
       (some false))
     else
      (some false))
    else
     (some false)))))
theorem d8  (r : Bool) (hF : F8 = some r) : DFun Try.prog noG 8 [] (AV.bool r) := by
 unfold F8 at hF
 refine bD k8 rfl ?_
 have hs : SH [] [] := SH.nil
 generalize ([] : Store) = st at hs ⊢
 refine rn 1 rfl ?_
 refine W.o (e_build (z := [(.int .u64 0), (.int .u64 0), (.int .u64 0), (.int .u64 0)]) (cs := c24 (aset (aset (Arr.rep 4 0) 0 0) 1 8589934592)) (pk_cons (cs := cI .u64 0) rfl rfl ((cI_len .u64) _) (by decide) (pk_cons (cs := cI .u64 8589934592) rfl rfl ((cI_len .u64) _) (by decide) pk_nil)) (show fillA (c24 (Arr.rep 4 0)) _ = _ from (fl_cons (lrF_set (i := 0) (x := 0) (cI_len .u64) rfl 0) (((cI_len .u64) _).trans ((cI_len .u64) _).symm) (fl_cons (lrF_set (i := 1) (x := 0) (cI_len .u64) rfl 8589934592) (((cI_len .u64) _).trans ((cI_len .u64) _).symm) (fl_nil _))))) ?_
 refine al hs (cs := c24 (Arr.rep 4 0)) rfl fun st b_1 hs => ?_
 refine sr hs 0 rfl rfl rfl (cs' := c24 (aset (aset (Arr.rep 4 0) 0 0) 1 8589934592)) rfl rfl fun st hs => ?_
 refine rn 0 rfl ?_
 refine W.o (lN (s := c24 (aset (aset (Arr.rep 4 0) 0 0) 1 8589934592)) rfl (hs.g 0 rfl) rfl rfl) ?_
 refine W.o (e_build (z := [(.int .u8 0), (.int .u64 0), (.int .u64 0), (.int .u64 0), (.int .u64 0), (.int .i64 0), (.int .i64 0), (.int .i64 0), .nils]) (cs := c27 ({ Kind := 2, Set := (aset (aset (Arr.rep 4 0) 0 0) 1 8589934592), Min := 0, Max := 0, Group := 0, Kids := none } : T27)) (pk_cons (cs := cI .u8 2) rfl rfl ((cI_len .u8) _) (by decide) (pk_cons (cs := c24 (aset (aset (Arr.rep 4 0) 0 0) 1 8589934592)) rfl rfl (c24_len _) (by decide) pk_nil)) (show fillA (c27 ({ Kind := 0, Set := (Arr.rep 4 0), Min := 0, Max := 0, Group := 0, Kids := none } : T27)) _ = _ from (fl_cons (lr27_Kind ({ Kind := 0, Set := (Arr.rep 4 0), Min := 0, Max := 0, Group := 0, Kids := none } : T27) 2) (((cI_len .u8) _).trans ((cI_len .u8) _).symm) (fl_cons (lr27_Set ({ Kind := 2, Set := (Arr.rep 4 0), Min := 0, Max := 0, Group := 0, Kids := none } : T27) (aset (aset (Arr.rep 4 0) 0 0) 1 8589934592)) ((c24_len _).trans (c24_len _).symm) (fl_nil _))))) ?_
 refine W.o (e_bslG (f := v27) (c := c27) ([({ Kind := 2, Set := (aset (aset (Arr.rep 4 0) 0 0) 1 8589934592), Min := 0, Max := 0, Group := 0, Kids := none } : T27)] : List T27) (pk_cons (cs := c27 ({ Kind := 2, Set := (aset (aset (Arr.rep 4 0) 0 0) 1 8589934592), Min := 0, Max := 0, Group := 0, Kids := none } : T27)) rfl rfl (c27_len _) (by decide) pk_nil) rfl rfl c27_len c27_one (fun _ => rfl) rfl) ?_
 refine W.o (e_build (z := [(.int .u8 0), (.int .u64 0), (.int .u64 0), (.int .u64 0), (.int .u64 0), (.int .i64 0), (.int .i64 0), (.int .i64 0), .nils]) (cs := c27 ({ Kind := 5, Set := (Arr.rep 4 0), Min := 1, Max := (-1), Group := 0, Kids := (some ([({ Kind := 2, Set := (aset (aset (Arr.rep 4 0) 0 0) 1 8589934592), Min := 0, Max := 0, Group := 0, Kids := none } : T27)] : List T27)) } : T27)) (pk_cons (cs := cI .u8 5) rfl rfl ((cI_len .u8) _) (by decide) (pk_cons (cs := cI .i64 1) rfl rfl ((cI_len .i64) _) (by decide) (pk_cons (cs := cI .i64 (-1)) rfl rfl ((cI_len .i64) _) (by decide) (pk_cons (cs := cSl 9 v27 (some ([({ Kind := 2, Set := (aset (aset (Arr.rep 4 0) 0 0) 1 8589934592), Min := 0, Max := 0, Group := 0, Kids := none } : T27)] : List T27))) (v := slV 9 v27 (some ([({ Kind := 2, Set := (aset (aset (Arr.rep 4 0) 0 0) 1 8589934592), Min := 0, Max := 0, Group := 0, Kids := none } : T27)] : List T27))) rfl slV_cells (cSl_len _) (by decide) pk_nil)))) (show fillA (c27 ({ Kind := 0, Set := (Arr.rep 4 0), Min := 0, Max := 0, Group := 0, Kids := none } : T27)) _ = _ from (fl_cons (lr27_Kind ({ Kind := 0, Set := (Arr.rep 4 0), Min := 0, Max := 0, Group := 0, Kids := none } : T27) 5) (((cI_len .u8) _).trans ((cI_len .u8) _).symm) (fl_cons (lr27_Min ({ Kind := 5, Set := (Arr.rep 4 0), Min := 0, Max := 0, Group := 0, Kids := none } : T27) 1) (((cI_len .i64) _).trans ((cI_len .i64) _).symm) (fl_cons (lr27_Max ({ Kind := 5, Set := (Arr.rep 4 0), Min := 1, Max := 0, Group := 0, Kids := none } : T27) (-1)) (((cI_len .i64) _).trans ((cI_len .i64) _).symm) (fl_cons (lr27_Kids ({ Kind := 5, Set := (Arr.rep 4 0), Min := 1, Max := (-1), Group := 0, Kids := none } : T27) (some ([({ Kind := 2, Set := (aset (aset (Arr.rep 4 0) 0 0) 1 8589934592), Min := 0, Max := 0, Group := 0, Kids := none } : T27)] : List T27))) ((cSl_len _).trans (cSl_len _).symm) (fl_nil _))))))) ?_
 refine al hs (cs := c27 ({ Kind := 0, Set := (Arr.rep 4 0), Min := 0, Max := 0, Group := 0, Kids := none } : T27)) rfl fun st b_2 hs => ?_
 refine sl hs 0 rfl rfl (LR.whole _ _) (c27_len _) rfl (c27_len _) (c27_one _) rfl fun st hs => ?_
 refine rn 0 rfl ?_
 refine W.o (e_loadN rfl (hs.g 0 rfl) (LR.whole _ _) (c27_len _)) ?_
 obtain ⟨r_3, g_4, hF⟩ := bind_some hF
 refine df (d10 ({ Kind := 5, Set := (Arr.rep 4 0), Min := 1, Max := (-1), Group := 0, Kids := (some ([({ Kind := 2, Set := (aset (aset (Arr.rep 4 0) 0 0) 1 8589934592), Min := 0, Max := 0, Group := 0, Kids := none } : T27)] : List T27)) } : T27) _ g_4) rfl ?_
 refine rn 3 rfl ?_
 refine al hs (cs := c34 ({ Groups := 0, Slots := 0, Code := none } : T34)) rfl fun st b_5 hs => ?_
 refine sl hs 0 rfl rfl (LR.whole _ _) (c34_len _) rfl (c34_len _) (c34_one _) rfl fun st hs => ?_
 refine rn 1 rfl ?_
 refine W.o (e_loadN rfl (hs.g 1 rfl) (LR.whole _ _) (c27_len _)) ?_
 obtain ⟨r_6, g_7, hF⟩ := bind_some hF
 refine df (d9 ({ Kind := 5, Set := (Arr.rep 4 0), Min := 1, Max := (-1), Group := 0, Kids := (some ([({ Kind := 2, Set := (aset (aset (Arr.rep 4 0) 0 0) 1 8589934592), Min := 0, Max := 0, Group := 0, Kids := none } : T27)] : List T27)) } : T27) _ g_7) rfl ?_
 refine rn 5 rfl ?_
 refine W.o (lN (s := c34 r_3.1) rfl (hs.g 0 rfl) rfl rfl) ?_
 obtain ⟨r_8, g_9, hF⟩ := bind_some hF
 refine df (d23 r_3.1 ([98, 97, 97] : Str) 0 _ g_9) rfl ?_
 refine rn 4 rfl ?_
 refine al hs (cs := c56 ({ From := 0, To := 0 } : T56)) rfl fun st b_10 hs => ?_
 refine sr hs 0 rfl rfl rfl (cs' := c56 r_8.1) rfl rfl fun st hs => ?_
 refine rn 5 rfl ?_
 refine bi hF (fun c_11 hF => ?_) (fun c_11 hF => ?_)
 · refine wfx 33 rfl c_11 ?_
   refine rn 4 rfl ?_
   refine bi hF (fun c_12 hF => ?_) (fun c_12 hF => ?_)
   · refine wfx 37 rfl c_12 ?_
     refine rn 4 rfl ?_
     refine bi hF (fun c_13 hF => ?_) (fun c_13 hF => ?_)
     · refine wfx 41 rfl c_13 ?_
       refine W.on rfl rfl ?_
       refine W.o (e_faddr rfl (hs.g 1 rfl)) ?_
       refine W.on rfl rfl ?_
       refine W.o (l1 rfl (hs.g 1 rfl) rfl) ?_
       refine W.on rfl rfl ?_
       refine W.o (e_len (rd_V rfl)) ?_
       refine rn 3 rfl ?_
       refine bi hF (fun c_14 hF => ?_) (fun c_14 hF => ?_)
       · refine wfx 47 rfl c_14 ?_
         refine rn 4 rfl ?_
         refine bi hF (fun c_15 hF => ?_) (fun c_15 hF => ?_)
         · refine wfx 51 rfl c_15 ?_
           refine rn 3 rfl ?_
           refine bi hF (fun c_16 hF => ?_) (fun c_16 hF => ?_)
           · refine wfx 54 rfl c_16 ?_
             refine W.on rfl rfl ?_
             refine W.o (lN (s := c56 r_8.1) rfl (hs.g 0 rfl) rfl rfl) ?_
             refine W.on rfl rfl ?_
             refine W.o (bR (cs := c56 ({ From := 1, To := 3 } : T56)) rfl rfl) ?_
             refine W.on rfl rfl ?_
             refine W.o (e_eqA rfl rfl (c56_eq r_8.1 ({ From := 1, To := 3 } : T56))) ?_
             refine rn 2 rfl ?_
             cases hF
             exact rD (rlt rl0) rfl
           · refine wfx 54 rfl c_16 ?_
             refine rn 5 rfl ?_
             cases hF
             exact rD (rlt rl0) rfl
         · refine wfx 51 rfl c_15 ?_
           refine rn 8 rfl ?_
           cases hF
           exact rD (rlt rl0) rfl
       · refine wfx 47 rfl c_14 ?_
         refine rn 12 rfl ?_
         cases hF
         exact rD (rlt rl0) rfl
     · refine wfx 41 rfl c_13 ?_
       refine rn 18 rfl ?_
       cases hF
       exact rD (rlt rl0) rfl
   · refine wfx 37 rfl c_12 ?_
     refine rn 22 rfl ?_
     cases hF
     exact rD (rlt rl0) rfl
 · refine wfx 33 rfl c_11 ?_
   refine rn 26 rfl ?_
   cases hF
   exact rD (rlt rl0) rfl
end Go.Proofs.Ytjbafmnocopofaa
