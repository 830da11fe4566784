/-
  Functions of the program's as plain functions.
-/
import Derived.Test.YtfjdegohjnejkaaD3
set_option linter.unusedVariables false
set_option maxRecDepth 4000
set_option maxHeartbeats 4000000
namespace Go.Proofs.Ytfjdegohjnejkaa
open Go AW
attribute [local irreducible] W WD SH XS XLoop DFun XCall
/-! ### 23: paddock/paddockref07.Bracket -/
def C23_23 : ACode := .cond 27 .skip (.exit 0)
def C23_37 : ACode := .s (.ops [q 40 (.loadN 4 9), q 41 (.mv 6), q 42 (.binI .add 41 (ki 1)), q0 (.store 4 2 40), q 3 (.mv 42), q 4 (.mv (ki 0)), q 5 (.mv (ki 0))]) .ret
def C23_41 : ACode := .s (.ops [q 44 (.mv 0), q 45 (.mv 6), qc 46 40 [44, 45], q 43 (.mv 46), q 47 (.extract 43 0), q 48 (.extract 43 1), q 49 (.extract 43 2), q 50 (.extract 43 3), q 10 (.alloc [(.int .u64 0), (.int .u64 0), (.int .u64 0), (.int .u64 0)]), q0 (.store 4 10 47), q 11 (.mv 48), q 12 (.mv 49), q 13 (.mv 50)]) (.s (.s (.ops [q 51 (.mv 13), q 52 (.un .not 51)]) (.cond 52 (.s (.ops [q 53 (.build [(.int .u64 0), (.int .u64 0), (.int .u64 0), (.int .u64 0)] []), q 54 (.mv 12), q0 (.store 4 2 53), q 3 (.mv (ki 0)), q 4 (.mv (ki 70)), q 5 (.mv 54)]) .ret) .skip)) (.s (.ops [q 55 (.loadN 4 9), q 56 (.loadN 4 10), qc 57 28 [55, 56], q0 (.store 4 9 57)]) (.ops [q 58 (.mv 11), q 6 (.mv 58)])))
def C23_27 : ACode := .s (.s (.ops [q 28 (.mv 0), q 29 (.mv 6), q 30 (.ixS 28 29), q 31 (.binI .eql 30 (ku 93)), q 32 (.mv 31), (q 33 (.mv 6)).y 32, (q 34 (.mv 8)).y 32, (q 35 (.binI .gtr 33 34)).y 32, q 36 (.pick 32 35 (.c (.bool false)))]) (.cond 36 (.s (.s (.ops [q 37 (.mv 7)]) (.cond 37 (.ops [q 38 (.loadN 4 9), qc 39 30 [38], q0 (.store 4 9 39)]) .skip)) C23_37) .skip)) C23_41
def C23_20 : ACode := .s (.s (.ops [q 24 (.mv 6), q 25 (.mv 0), q 26 (.lenS 25), q 27 (.binI .lss 24 26)]) C23_23) (.block 1 C23_27)
def C23_54 : ACode := .s (.ops [q 59 (.build [(.int .u64 0), (.int .u64 0), (.int .u64 0), (.int .u64 0)] []), q 60 (.mv 0), q 61 (.lenS 60), q0 (.store 4 2 59), q 3 (.mv (ki 0)), q 4 (.mv (ki 70)), q 5 (.mv 61)]) .ret
def C23_13 : ACode := .s (.ops [q 23 (.mv 6), q 8 (.mv 23)]) (.s (.ops [q 9 (.alloc [(.int .u64 0), (.int .u64 0), (.int .u64 0), (.int .u64 0)])]) (.s (.block 0 (.loop C23_20)) C23_54))
def C23_7 : ACode := .s (.s (.ops [q 22 (.mv 7)]) (.cond 22 (.ops [q 6 (.mv (ki 1))]) .skip)) C23_13
def C23_1 : ACode := .s (.ops [q 2 (.alloc [(.int .u64 0), (.int .u64 0), (.int .u64 0), (.int .u64 0)]), q 3 (.mv (ki 0)), q 4 (.mv (ki 0)), q 5 (.mv (ki 0))]) (.s (.ops [q 6 (.mv (ki 0))]) (.s (.ops [q 14 (.mv 0), q 15 (.lenS 14), q 16 (.binI .gtr 15 (ki 0)), q 17 (.mv 16), (q 18 (.mv 0)).y 17, (q 19 (.ixS 18 (ki 0))).y 17, (q 20 (.binI .eql 19 (ku 94))).y 17, q 21 (.pick 17 20 (.c (.bool false))), q 7 (.mv 21)]) C23_7))
def R23 : List RA := [(.cellN 2 4), (.tmp 3), (.tmp 4), (.tmp 5)]
theorem k23 : compF Try.prog (muL []) 23 = some ⟨62, C23_1, R23⟩ := by kernel_rfl
noncomputable abbrev X23 (r : Arr 4 Int × Int × Int × Int) : Cx := cD Try.prog noG 62 R23 (AV.tup [v24 r.1, AV.int .i64 r.2.1, AV.int .i64 r.2.2.1, AV.int .i64 r.2.2.2])
inductive St23 where
 | p1 (s : Str) (i : Int) (not_ : Bool) (t2_ : Arr 4 Int)
 | p2 (s : Str) (i : Int) (not_ : Bool) (t2_ : Arr 4 Int)
 | p3 (s : Str) (i : Int) (not_ : Bool) (first : Int) (t2_ : Arr 4 Int) (set : Arr 4 Int)
 | p4 (i : Int) (t2_ : Arr 4 Int) (set : Arr 4 Int)
 | p5 (s : Str) (i : Int) (not_ : Bool) (first : Int) (t2_ : Arr 4 Int) (set : Arr 4 Int)
noncomputable def G23 : St23 → Option (Arr 4 Int × Int × Int × Int)
 | .p1 s i not_ t2_ =>
  (if not_ = true then
   (G23 (.p2 s 1 not_ t2_))
  else
   (G23 (.p2 s i not_ t2_)))
 | .p2 s i not_ t2_ =>
  (G23 (.p3 s i not_ i t2_ (Arr.rep 4 0)))
 | .p3 s i not_ first t2_ set =>
  (if (decide (i < ((s).length : Int))) = true then
   (ix s i >>= fun b_8 =>
    (if ((b_8.toNat : Int) == 93) = true then
     (if (decide (i > first)) = true then
      (if not_ = true then
       (F30 set >>= fun r_13 =>
        (G23 (.p4 i t2_ r_13)))
      else
       (G23 (.p4 i t2_ set)))
     else
      (G23 (.p5 s i not_ first t2_ set)))
    else
     (G23 (.p5 s i not_ first t2_ set))))
  else
   (some ((Arr.rep 4 0), 0, 70, ((s).length : Int))))
 | .p4 i t2_ set =>
  (some (set, IntKind.wrap .i64 (i + 1), 0, 0))
 | .p5 s i not_ first t2_ set =>
  (F40 s i >>= fun r_15 =>
   (if (!r_15.2.2.2) = true then
    (some ((Arr.rep 4 0), 0, 70, r_15.2.2.1))
   else
    (F28 set r_15.1 >>= fun r_19 =>
     (G23 (.p3 s r_15.2.1 not_ first t2_ r_19)))))
 partial_fixpoint
def M23 (x : St23) (r : Arr 4 Int × Int × Int × Int) : Prop := match x with
 | .p1 s i not_ t2_ => ∀ (tm : Fr) (st : Store) (io0 : Nat), Frm tm [(0, AV.str s), (2, .ptr io0 0), (6, AV.int .i64 i), (7, AV.bool not_)] → SH st [pt io0 (.cells (c24 t2_))] → W (X23 r) [.code C23_7] tm st
 | .p2 s i not_ t2_ => ∀ (tm : Fr) (st : Store) (io0 : Nat), Frm tm [(0, AV.str s), (2, .ptr io0 0), (6, AV.int .i64 i), (7, AV.bool not_)] → SH st [pt io0 (.cells (c24 t2_))] → W (X23 r) [.code C23_13] tm st
 | .p3 s i not_ first t2_ set => ∀ (tm : Fr) (st : Store) (io0 : Nat) (io1 : Nat), Frm tm [(0, AV.str s), (2, .ptr io0 0), (6, AV.int .i64 i), (7, AV.bool not_), (8, AV.int .i64 first), (9, .ptr io1 0)] → SH st [pt io0 (.cells (c24 t2_)), pt io1 (.cells (c24 set))] → W (X23 r) [.lp C23_20, .blk 0, .code C23_54] tm st
 | .p4 i t2_ set => ∀ (tm : Fr) (st : Store) (io0 : Nat) (io1 : Nat), Frm tm [(2, .ptr io0 0), (6, AV.int .i64 i), (9, .ptr io1 0)] → SH st [pt io0 (.cells (c24 t2_)), pt io1 (.cells (c24 set))] → W (X23 r) [.code C23_37, .code C23_41, .blk 1, .lp C23_20, .blk 0, .code C23_54] tm st
 | .p5 s i not_ first t2_ set => ∀ (tm : Fr) (st : Store) (io0 : Nat) (io1 : Nat), Frm tm [(0, AV.str s), (2, .ptr io0 0), (6, AV.int .i64 i), (7, AV.bool not_), (8, AV.int .i64 first), (9, .ptr io1 0)] → SH st [pt io0 (.cells (c24 t2_)), pt io1 (.cells (c24 set))] → W (X23 r) [.code C23_41, .blk 1, .lp C23_20, .blk 0, .code C23_54] tm st
theorem w23 : ∀ (x : St23) (r : Arr 4 Int × Int × Int × Int), G23 x = some r → M23 x r := by
 refine G23.partial_correctness M23 ?_
 intro g ih x r hF
 cases x with
 | p1 s i not_ t2_ =>
  dsimp only at hF
  intro tm st io0 hf hs
  refine en hf ?_
  refine rn 1 rfl ?_
  refine ci hF rfl (fun c_5 hF => ?_) (fun c_5 hF => ?_)
  · refine rj 1 1 rfl ?_
    exact ih (.p2 s 1 not_ t2_) _ hF _ _ io0 ⟨rfl, rfl, rfl, rfl, trivial⟩ hs
  · refine rj 0 1 rfl ?_
    exact ih (.p2 s i not_ t2_) _ hF _ _ io0 ⟨rfl, rfl, rfl, rfl, trivial⟩ hs
 | p2 s i not_ t2_ =>
  dsimp only at hF
  intro tm st io0 hf hs
  refine en hf ?_
  refine rn 2 rfl ?_
  refine al hs (cs := c24 (Arr.rep 4 0)) rfl fun st b_6 hs => ?_
  refine rn 0 rfl ?_
  exact ih (.p3 s i not_ i t2_ (Arr.rep 4 0)) _ hF _ _ io0 b_6 ⟨rfl, rfl, rfl, rfl, rfl, rfl, trivial⟩ (hs.p 2 [1, 0] rfl)
 | p3 s i not_ first t2_ set =>
  dsimp only at hF
  intro tm st io0 io1 hf hs
  refine en hf ?_
  refine lp ?_
  refine rn 4 rfl ?_
  refine ci hF rfl (fun c_7 hF => ?_) (fun c_7 hF => ?_)
  · obtain ⟨b_8, g_9, hF⟩ := bind_some hF
    refine rn 2 rfl ?_
    refine W.o (e_ixS rfl rfl g_9) ?_
    refine rn 2 rfl ?_
    refine bi hF (fun c_10 hF => ?_) (fun c_10 hF => ?_)
    · refine wfx 32 rfl c_10 ?_
      refine rn 4 rfl ?_
      refine ci hF rfl (fun c_11 hF => ?_) (fun c_11 hF => ?_)
      · refine rn 1 rfl ?_
        refine ci hF rfl (fun c_12 hF => ?_) (fun c_12 hF => ?_)
        · refine rn 0 rfl ?_
          refine W.o (lN (s := c24 set) rfl (hs.g 1 rfl) rfl rfl) ?_
          obtain ⟨r_13, g_14, hF⟩ := bind_some hF
          refine df (d30 set _ g_14) rfl ?_
          refine sr hs 1 rfl rfl rfl (cs' := c24 r_13) rfl rfl fun st hs => ?_
          refine rj 0 1 rfl ?_
          exact ih (.p4 i t2_ r_13) _ hF _ _ io0 io1 ⟨rfl, rfl, rfl, trivial⟩ hs
        · refine rj 0 1 rfl ?_
          exact ih (.p4 i t2_ set) _ hF _ _ io0 io1 ⟨rfl, rfl, rfl, trivial⟩ hs
      · refine rj 0 1 rfl ?_
        exact ih (.p5 s i not_ first t2_ set) _ hF _ _ io0 io1 ⟨rfl, rfl, rfl, rfl, rfl, rfl, trivial⟩ hs
    · refine wfx 32 rfl c_10 ?_
      refine rn 4 rfl ?_
      refine cf rfl rfl ?_
      refine rj 0 1 rfl ?_
      exact ih (.p5 s i not_ first t2_ set) _ hF _ _ io0 io1 ⟨rfl, rfl, rfl, rfl, rfl, rfl, trivial⟩ hs
  · refine rn 0 rfl ?_
    refine W.o (e_build (z := [(.int .u64 0), (.int .u64 0), (.int .u64 0), (.int .u64 0)]) (cs := c24 (Arr.rep 4 0)) pk_nil (show fillA (c24 (Arr.rep 4 0)) _ = _ from (fl_nil _))) ?_
    refine rn 2 rfl ?_
    refine sr hs 0 rfl rfl rfl (cs' := c24 (Arr.rep 4 0)) rfl rfl fun st hs => ?_
    refine rn 3 rfl ?_
    cases hF
    exact rD (rl_cellN rfl (hs.g 0 rfl) (LR.whole _ _) (c24_len _) (rlt (rlt (rlt rl0)))) rfl
 | p4 i t2_ set =>
  dsimp only at hF
  intro tm st io0 io1 hf hs
  refine en hf ?_
  refine rn 0 rfl ?_
  refine W.o (lN (s := c24 set) rfl (hs.g 1 rfl) rfl rfl) ?_
  refine rn 2 rfl ?_
  refine sr hs 0 rfl rfl rfl (cs' := c24 set) rfl rfl fun st hs => ?_
  refine rn 3 rfl ?_
  cases hF
  exact rD (rl_cellN rfl (hs.g 0 rfl) (LR.whole _ _) (c24_len _) (rlt (rlt (rlt rl0)))) rfl
 | p5 s i not_ first t2_ set =>
  dsimp only at hF
  intro tm st io0 io1 hf hs
  refine en hf ?_
  obtain ⟨r_15, g_16, hF⟩ := bind_some hF
  refine rn 2 rfl ?_
  refine df (d40 s i _ g_16) rfl ?_
  refine rn 5 rfl ?_
  refine al hs (cs := c24 (Arr.rep 4 0)) rfl fun st b_17 hs => ?_
  refine sr hs 0 rfl rfl rfl (cs' := c24 r_15.1) rfl rfl fun st hs => ?_
  refine rn 5 rfl ?_
  refine ci hF rfl (fun c_18 hF => ?_) (fun c_18 hF => ?_)
  · refine rn 0 rfl ?_
    refine W.o (e_build (z := [(.int .u64 0), (.int .u64 0), (.int .u64 0), (.int .u64 0)]) (cs := c24 (Arr.rep 4 0)) pk_nil (show fillA (c24 (Arr.rep 4 0)) _ = _ from (fl_nil _))) ?_
    refine rn 1 rfl ?_
    refine sr hs 1 rfl rfl rfl (cs' := c24 (Arr.rep 4 0)) rfl rfl fun st hs => ?_
    refine rn 3 rfl ?_
    cases hF
    exact rD (rl_cellN rfl (hs.g 1 rfl) (LR.whole _ _) (c24_len _) (rlt (rlt (rlt rl0)))) rfl
  · refine rn 0 rfl ?_
    refine W.o (lN (s := c24 set) rfl (hs.g 2 rfl) rfl rfl) ?_
    refine W.o (lN (s := c24 r_15.1) rfl (hs.g 0 rfl) rfl rfl) ?_
    obtain ⟨r_19, g_20, hF⟩ := bind_some hF
    refine df (d28 set r_15.1 _ g_20) rfl ?_
    refine sr hs 2 rfl rfl rfl (cs' := c24 r_19) rfl rfl fun st hs => ?_
    refine rn 2 rfl ?_
    exact ih (.p3 s r_15.2.1 not_ first t2_ r_19) _ hF _ _ io0 io1 ⟨rfl, rfl, rfl, rfl, rfl, rfl, trivial⟩ (hs.p 3 [1, 1] rfl)
noncomputable def F23 (s : Str) : Option (Arr 4 Int × Int × Int × Int) :=
 (if (decide (((s).length : Int) > 0)) = true then
  (ix s 0 >>= fun b_3 =>
   (G23 (.p1 s 0 ((b_3.toNat : Int) == 94) (Arr.rep 4 0))))
 else
  (G23 (.p1 s 0 false (Arr.rep 4 0))))
theorem d23 (s : Str) (r : Arr 4 Int × Int × Int × Int) (hF : F23 s = some r) : DFun Try.prog noG 23 [AV.str s] (AV.tup [v24 r.1, AV.int .i64 r.2.1, AV.int .i64 r.2.2.1, AV.int .i64 r.2.2.2]) := by
 unfold F23 at hF
 refine bD k23 rfl ?_
 have hs : SH [] [] := SH.nil
 generalize ([] : Store) = st at hs ⊢
 refine rn 0 rfl ?_
 refine al hs (cs := c24 (Arr.rep 4 0)) rfl fun st b_1 hs => ?_
 refine rn 8 rfl ?_
 refine bi hF (fun c_2 hF => ?_) (fun c_2 hF => ?_)
 · refine wfx 17 rfl c_2 ?_
   obtain ⟨b_3, g_4, hF⟩ := bind_some hF
   refine rn 1 rfl ?_
   refine W.on rfl rfl ?_
   refine W.o (e_ixS rfl rfl g_4) ?_
   refine rj 3 1 rfl ?_
   exact w23 (.p1 s 0 ((b_3.toNat : Int) == 94) (Arr.rep 4 0)) _ hF _ _ b_1 ⟨rfl, rfl, rfl, rfl, trivial⟩ hs
 · refine wfx 17 rfl c_2 ?_
   refine rj 5 1 rfl ?_
   exact w23 (.p1 s 0 false (Arr.rep 4 0)) _ hF _ _ b_1 ⟨rfl, rfl, rfl, rfl, trivial⟩ hs
/-! ### 34: paddock/sets.classes -/
def O34_12q1 : List AOp := qc 34 27 [31, 33] :: q0 (.mapset .none 17 (.c (.str [115, 112, 97, 99, 101])) 34) :: qc 35 20 [(ku 0), (ku 31)] :: q 36 (.bslice 1 1 false [(.int .u8 0)] [(0, (1, (ku 127)))] false) :: qc 37 12 [36] :: qc 38 27 [35, 37] :: q0 (.mapset .none 17 (.c (.str [99, 110, 116, 114, 108])) 38) :: qc 39 20 [(ku 32), (ku 126)] :: q0 (.mapset .none 17 (.c (.str [112, 114, 105, 110, 116])) 39) :: q 40 (.loadN 4 6) :: q0 (.mapset .none 17 (.c (.str [103, 114, 97, 112, 104])) 40) :: q 41 (.loadN 4 6) :: q 42 (.loadN 4 5) :: qc 43 29 [42] :: qc 44 25 [41, 43] :: q0 (.mapset .none 17 (.c (.str [112, 117, 110, 99, 116])) 44) :: q 45 (.mv 17) :: q 0 (.mv 45) :: []
def O34_12q0 : List AOp := q 17 (.mkmap .none) :: q 18 (.loadN 4 1) :: q0 (.mapset .none 17 (.c (.str [117, 112, 112, 101, 114])) 18) :: q 19 (.loadN 4 2) :: q0 (.mapset .none 17 (.c (.str [108, 111, 119, 101, 114])) 19) :: q 20 (.loadN 4 4) :: q0 (.mapset .none 17 (.c (.str [97, 108, 112, 104, 97])) 20) :: q 21 (.loadN 4 3) :: q0 (.mapset .none 17 (.c (.str [100, 105, 103, 105, 116])) 21) :: q 22 (.loadN 4 5) :: q0 (.mapset .none 17 (.c (.str [97, 108, 110, 117, 109])) 22) :: q 23 (.loadN 4 3) :: qc 24 20 [(ku 65), (ku 70)] :: qc 25 20 [(ku 97), (ku 102)] :: qc 26 27 [24, 25] :: qc 27 27 [23, 26] :: q0 (.mapset .none 17 (.c (.str [120, 100, 105, 103, 105, 116])) 27) :: q 28 (.bslice 1 2 false [(.int .u8 0)] [(0, (1, (ku 32))), (1, (1, (ku 9)))] false) :: q 29 (.cvB 28) :: qc 30 12 [29] :: q0 (.mapset .none 17 (.c (.str [98, 108, 97, 110, 107])) 30) :: qc 31 20 [(ku 9), (ku 13)] :: q 32 (.bslice 1 1 false [(.int .u8 0)] [(0, (1, (ku 32)))] false) :: qc 33 12 [32] :: O34_12q1
def C34_1 : ACode := .s (.ops [q 0 (.mv (.c .nilmp))]) (.s (.ops [qc 7 20 [(ku 65), (ku 90)], qc 8 20 [(ku 97), (ku 122)], qc 9 20 [(ku 48), (ku 57)], q 1 (.alloc [(.int .u64 0), (.int .u64 0), (.int .u64 0), (.int .u64 0)]), q 2 (.alloc [(.int .u64 0), (.int .u64 0), (.int .u64 0), (.int .u64 0)]), q 3 (.alloc [(.int .u64 0), (.int .u64 0), (.int .u64 0), (.int .u64 0)]), q0 (.store 4 1 7), q0 (.store 4 2 8), q0 (.store 4 3 9)]) (.s (.ops [q 10 (.loadN 4 1), q 11 (.loadN 4 2), qc 12 27 [10, 11], q 4 (.alloc [(.int .u64 0), (.int .u64 0), (.int .u64 0), (.int .u64 0)]), q0 (.store 4 4 12)]) (.s (.ops [q 13 (.loadN 4 4), q 14 (.loadN 4 3), qc 15 27 [13, 14], q 5 (.alloc [(.int .u64 0), (.int .u64 0), (.int .u64 0), (.int .u64 0)]), q0 (.store 4 5 15)]) (.s (.ops [qc 16 20 [(ku 33), (ku 126)], q 6 (.alloc [(.int .u64 0), (.int .u64 0), (.int .u64 0), (.int .u64 0)]), q0 (.store 4 6 16)]) (.s (.draw [] 0 4 O34_12q0 []) .ret)))))
def R34 : List RA := [(.tmp 0)]
theorem k34 : compF Try.prog (muL []) 34 = some ⟨46, C34_1, R34⟩ := by kernel_rfl
noncomputable abbrev X34 (K : AV → Store → Prop) : Cx := cK Try.prog noG 46 R34 K
noncomputable def F34  : Option (Mp Str (Arr 4 Int)) :=
 (F20 65 90 >>= fun r_1 =>
  (F20 97 122 >>= fun r_3 =>
   (F20 48 57 >>= fun r_5 =>
    (F27 r_1 r_3 >>= fun r_10 =>
     (F27 r_10 r_5 >>= fun r_13 =>
      (F20 33 126 >>= fun r_16 =>
       (if (Mp.get (Mp.empty : Mp Str (Arr 4 Int)) ([117, 112, 112, 101, 114] : Str)).isNone = true then
        (some (Mp.put (Mp.empty : Mp Str (Arr 4 Int)) ([117, 112, 112, 101, 114] : Str) r_1) >>= fun m_26 =>
         (if (Mp.get m_26 ([108, 111, 119, 101, 114] : Str)).isNone = true then
          (some (Mp.put m_26 ([108, 111, 119, 101, 114] : Str) r_3) >>= fun m_29 =>
           (if (Mp.get m_29 ([97, 108, 112, 104, 97] : Str)).isNone = true then
            (some (Mp.put m_29 ([97, 108, 112, 104, 97] : Str) r_10) >>= fun m_32 =>
             (if (Mp.get m_32 ([100, 105, 103, 105, 116] : Str)).isNone = true then
              (some (Mp.put m_32 ([100, 105, 103, 105, 116] : Str) r_5) >>= fun m_35 =>
               (if (Mp.get m_35 ([97, 108, 110, 117, 109] : Str)).isNone = true then
                (some (Mp.put m_35 ([97, 108, 110, 117, 109] : Str) r_13) >>= fun m_38 =>
                 (F20 65 70 >>= fun r_40 =>
                  (F20 97 102 >>= fun r_42 =>
                   (F27 r_40 r_42 >>= fun r_44 =>
                    (F27 r_5 r_44 >>= fun r_46 =>
                     (if (Mp.get m_38 ([120, 100, 105, 103, 105, 116] : Str)).isNone = true then
                      (some (Mp.put m_38 ([120, 100, 105, 103, 105, 116] : Str) r_46) >>= fun m_49 =>
                       (F12 (some ([32, 9] : List Int)) >>= fun r_52 =>
                        (if (Mp.get m_49 ([98, 108, 97, 110, 107] : Str)).isNone = true then
                         (some (Mp.put m_49 ([98, 108, 97, 110, 107] : Str) r_52) >>= fun m_55 =>
                          (F20 9 13 >>= fun r_57 =>
                           (F12 (some ([32] : List Int)) >>= fun r_60 =>
                            (F27 r_57 r_60 >>= fun r_62 =>
                             (if (Mp.get m_55 ([115, 112, 97, 99, 101] : Str)).isNone = true then
                              (some (Mp.put m_55 ([115, 112, 97, 99, 101] : Str) r_62) >>= fun m_65 =>
                               (F20 0 31 >>= fun r_67 =>
                                (F12 (some ([127] : List Int)) >>= fun r_70 =>
                                 (F27 r_67 r_70 >>= fun r_72 =>
                                  (if (Mp.get m_65 ([99, 110, 116, 114, 108] : Str)).isNone = true then
                                   (some (Mp.put m_65 ([99, 110, 116, 114, 108] : Str) r_72) >>= fun m_75 =>
                                    (F20 32 126 >>= fun r_77 =>
                                     (if (Mp.get m_75 ([112, 114, 105, 110, 116] : Str)).isNone = true then
                                      (some (Mp.put m_75 ([112, 114, 105, 110, 116] : Str) r_77) >>= fun m_80 =>
                                       (if (Mp.get m_80 ([103, 114, 97, 112, 104] : Str)).isNone = true then
                                        (some (Mp.put m_80 ([103, 114, 97, 112, 104] : Str) r_16) >>= fun m_83 =>
                                         (F29 r_13 >>= fun r_85 =>
                                          (F25 r_16 r_85 >>= fun r_87 =>
                                           (if (Mp.get m_83 ([112, 117, 110, 99, 116] : Str)).isNone = true then
                                            (some (Mp.put m_83 ([112, 117, 110, 99, 116] : Str) r_87) >>= fun m_90 =>
                                             (some m_90))
                                           else none))))
                                       else none))
                                     else none)))
                                  else none)))))
                             else none)))))
                        else none)))
                     else none))))))
               else none))
             else none))
           else none))
         else none))
       else none)))))))
theorem d34  (r : Mp Str (Arr 4 Int)) (hF : F34  = some r) : ∀ (K : AV → Store → Prop) (Ls : List Asn) (st : Store), SH st Ls → (∀ st id, SH st (pt id (.map none (mS v24 r) r.n) :: Ls) → K (.mp id) st) → XCall Try.prog noG 34 [] st K := by
 unfold F34 at hF
 intro K Ls st hs hK
 refine bK k34 rfl ?_
 obtain ⟨r_1, g_2, hF⟩ := bind_some hF
 refine rn 1 rfl ?_
 refine df (d20 65 90 _ g_2) rfl ?_
 obtain ⟨r_3, g_4, hF⟩ := bind_some hF
 refine df (d20 97 122 _ g_4) rfl ?_
 obtain ⟨r_5, g_6, hF⟩ := bind_some hF
 refine df (d20 48 57 _ g_6) rfl ?_
 refine al hs (cs := c24 (Arr.rep 4 0)) rfl fun st b_7 hs => ?_
 refine al hs (cs := c24 (Arr.rep 4 0)) rfl fun st b_8 hs => ?_
 refine al hs (cs := c24 (Arr.rep 4 0)) rfl fun st b_9 hs => ?_
 refine sr hs 2 rfl rfl rfl (cs' := c24 r_1) rfl rfl fun st hs => ?_
 refine sr hs 1 rfl rfl rfl (cs' := c24 r_3) rfl rfl fun st hs => ?_
 refine sr hs 0 rfl rfl rfl (cs' := c24 r_5) rfl rfl fun st hs => ?_
 refine rn 0 rfl ?_
 refine W.o (lN (s := c24 r_1) rfl (hs.g 2 rfl) rfl rfl) ?_
 refine W.o (lN (s := c24 r_3) rfl (hs.g 1 rfl) rfl rfl) ?_
 obtain ⟨r_10, g_11, hF⟩ := bind_some hF
 refine df (d27 r_1 r_3 _ g_11) rfl ?_
 refine al hs (cs := c24 (Arr.rep 4 0)) rfl fun st b_12 hs => ?_
 refine sr hs 0 rfl rfl rfl (cs' := c24 r_10) rfl rfl fun st hs => ?_
 refine rn 0 rfl ?_
 refine W.o (lN (s := c24 r_10) rfl (hs.g 0 rfl) rfl rfl) ?_
 refine W.o (lN (s := c24 r_5) rfl (hs.g 1 rfl) rfl rfl) ?_
 obtain ⟨r_13, g_14, hF⟩ := bind_some hF
 refine df (d27 r_10 r_5 _ g_14) rfl ?_
 refine al hs (cs := c24 (Arr.rep 4 0)) rfl fun st b_15 hs => ?_
 refine sr hs 0 rfl rfl rfl (cs' := c24 r_13) rfl rfl fun st hs => ?_
 obtain ⟨r_16, g_17, hF⟩ := bind_some hF
 refine rn 0 rfl ?_
 refine df (d20 33 126 _ g_17) rfl ?_
 refine al hs (cs := c24 (Arr.rep 4 0)) rfl fun st b_18 hs => ?_
 refine sr hs 0 rfl rfl rfl (cs' := c24 r_16) rfl rfl fun st hs => ?_
 refine rn 0 rfl ?_
 refine drn hs fun s_19 st h0 hs => ?_
 refine dmkS v24 hs 0 rfl rfl fun st hs => ?_
 refine de rfl (lN (s := c24 r_1) rfl (h0.g 5 rfl) rfl rfl) ?_
 obtain ⟨g_25, hF⟩ := grd_some hF
 obtain ⟨m_26, e_27, hF⟩ := let_some hF
 refine dmsS (f := v24) r_1 hs 0 rfl rfl rfl rfl g_25 rfl fun st hs => ?_
 rw [e_27] at hs
 refine de rfl (lN (s := c24 r_3) rfl (h0.g 4 rfl) rfl rfl) ?_
 obtain ⟨g_28, hF⟩ := grd_some hF
 obtain ⟨m_29, e_30, hF⟩ := let_some hF
 refine dmsS (f := v24) r_3 hs 0 rfl rfl rfl rfl g_28 rfl fun st hs => ?_
 rw [e_30] at hs
 refine de rfl (lN (s := c24 r_10) rfl (h0.g 2 rfl) rfl rfl) ?_
 obtain ⟨g_31, hF⟩ := grd_some hF
 obtain ⟨m_32, e_33, hF⟩ := let_some hF
 refine dmsS (f := v24) r_10 hs 0 rfl rfl rfl rfl g_31 rfl fun st hs => ?_
 rw [e_33] at hs
 refine de rfl (lN (s := c24 r_5) rfl (h0.g 3 rfl) rfl rfl) ?_
 obtain ⟨g_34, hF⟩ := grd_some hF
 obtain ⟨m_35, e_36, hF⟩ := let_some hF
 refine dmsS (f := v24) r_5 hs 0 rfl rfl rfl rfl g_34 rfl fun st hs => ?_
 rw [e_36] at hs
 refine de rfl (lN (s := c24 r_13) rfl (h0.g 1 rfl) rfl rfl) ?_
 obtain ⟨g_37, hF⟩ := grd_some hF
 obtain ⟨m_38, e_39, hF⟩ := let_some hF
 refine dmsS (f := v24) r_13 hs 0 rfl rfl rfl rfl g_37 rfl fun st hs => ?_
 rw [e_39] at hs
 refine de rfl (lN (s := c24 r_5) rfl (h0.g 3 rfl) rfl rfl) ?_
 obtain ⟨r_40, g_41, hF⟩ := bind_some hF
 refine ddf (d20 65 70 _ g_41) rfl ?_
 obtain ⟨r_42, g_43, hF⟩ := bind_some hF
 refine ddf (d20 97 102 _ g_43) rfl ?_
 obtain ⟨r_44, g_45, hF⟩ := bind_some hF
 refine ddf (d27 r_40 r_42 _ g_45) rfl ?_
 obtain ⟨r_46, g_47, hF⟩ := bind_some hF
 refine ddf (d27 r_5 r_44 _ g_47) rfl ?_
 obtain ⟨g_48, hF⟩ := grd_some hF
 obtain ⟨m_49, e_50, hF⟩ := let_some hF
 refine dmsS (f := v24) r_46 hs 0 rfl rfl rfl rfl g_48 rfl fun st hs => ?_
 rw [e_50] at hs
 refine dbs (f := AV.int .u8) ([32, 9] : List Int) hs 1 rfl rfl rfl rfl rfl rfl fun st hs => ?_
 refine dcb hs 1 rfl rfl ?_
 obtain ⟨r_52, g_53, hF⟩ := bind_some hF
 refine ddf' (d12 (some ([32, 9] : List Int)) _ g_53) (ds := [slV 1 (AV.int .u8) (some ([32, 9] : List Int))]) (dsl_cons (dsw (es := 1) (f := AV.int .u8) (o := (some ([32, 9] : List Int))) (id := (List.length s_19 + 1))) dsl_nil) ?_
 obtain ⟨g_54, hF⟩ := grd_some hF
 obtain ⟨m_55, e_56, hF⟩ := let_some hF
 refine dmsS (f := v24) r_52 hs 0 rfl rfl rfl rfl g_54 rfl fun st hs => ?_
 rw [e_56] at hs
 obtain ⟨r_57, g_58, hF⟩ := bind_some hF
 refine ddf (d20 9 13 _ g_58) rfl ?_
 refine dbs (f := AV.int .u8) ([32] : List Int) hs 2 rfl rfl rfl rfl rfl rfl fun st hs => ?_
 obtain ⟨r_60, g_61, hF⟩ := bind_some hF
 refine ddf' (d12 (some ([32] : List Int)) _ g_61) (ds := [slV 1 (AV.int .u8) (some ([32] : List Int))]) (dsl_cons (dsw (es := 1) (f := AV.int .u8) (o := (some ([32] : List Int))) (id := (List.length s_19 + 2))) dsl_nil) ?_
 obtain ⟨r_62, g_63, hF⟩ := bind_some hF
 refine ddf (d27 r_57 r_60 _ g_63) rfl ?_
 obtain ⟨g_64, hF⟩ := grd_some hF
 obtain ⟨m_65, e_66, hF⟩ := let_some hF
 refine dmsS (f := v24) r_62 hs 0 rfl rfl rfl rfl g_64 rfl fun st hs => ?_
 rw [e_66] at hs
 obtain ⟨r_67, g_68, hF⟩ := bind_some hF
 refine ddf (d20 0 31 _ g_68) rfl ?_
 refine dbs (f := AV.int .u8) ([127] : List Int) hs 3 rfl rfl rfl rfl rfl rfl fun st hs => ?_
 obtain ⟨r_70, g_71, hF⟩ := bind_some hF
 refine ddf' (d12 (some ([127] : List Int)) _ g_71) (ds := [slV 1 (AV.int .u8) (some ([127] : List Int))]) (dsl_cons (dsw (es := 1) (f := AV.int .u8) (o := (some ([127] : List Int))) (id := (List.length s_19 + 3))) dsl_nil) ?_
 obtain ⟨r_72, g_73, hF⟩ := bind_some hF
 refine ddf (d27 r_67 r_70 _ g_73) rfl ?_
 obtain ⟨g_74, hF⟩ := grd_some hF
 obtain ⟨m_75, e_76, hF⟩ := let_some hF
 refine dmsS (f := v24) r_72 hs 0 rfl rfl rfl rfl g_74 rfl fun st hs => ?_
 rw [e_76] at hs
 obtain ⟨r_77, g_78, hF⟩ := bind_some hF
 refine ddf (d20 32 126 _ g_78) rfl ?_
 obtain ⟨g_79, hF⟩ := grd_some hF
 obtain ⟨m_80, e_81, hF⟩ := let_some hF
 refine dmsS (f := v24) r_77 hs 0 rfl rfl rfl rfl g_79 rfl fun st hs => ?_
 rw [e_81] at hs
 refine de rfl (lN (s := c24 r_16) rfl (h0.g 0 rfl) rfl rfl) ?_
 obtain ⟨g_82, hF⟩ := grd_some hF
 obtain ⟨m_83, e_84, hF⟩ := let_some hF
 refine dmsS (f := v24) r_16 hs 0 rfl rfl rfl rfl g_82 rfl fun st hs => ?_
 rw [e_84] at hs
 refine de rfl (lN (s := c24 r_16) rfl (h0.g 0 rfl) rfl rfl) ?_
 refine de rfl (lN (s := c24 r_13) rfl (h0.g 1 rfl) rfl rfl) ?_
 obtain ⟨r_85, g_86, hF⟩ := bind_some hF
 refine ddf (d29 r_13 _ g_86) rfl ?_
 obtain ⟨r_87, g_88, hF⟩ := bind_some hF
 refine ddf (d25 r_16 r_85 _ g_88) rfl ?_
 obtain ⟨g_89, hF⟩ := grd_some hF
 obtain ⟨m_90, e_91, hF⟩ := let_some hF
 refine dmsS (f := v24) r_87 hs 0 rfl rfl rfl rfl g_89 rfl fun st hs => ?_
 rw [e_91] at hs
 refine dn 2 rfl ?_
 refine dz ?_
 refine rn 0 rfl ?_
 cases hF
 exact rK (rlt rl0) (hK _ _ (hs.p 10 [0] rfl)) rfl
/-! ### 9: paddock/sets.Class -/
def C9_1 : ACode := .s (.ops [q 2 (.alloc [(.int .u64 0), (.int .u64 0), (.int .u64 0), (.int .u64 0)]), q 3 (.mv (.c (.bool false)))]) (.s (.ops [qc 7 34 [], q 8 (.mv 0), q 9 (.lookup .none (.agg [(.int .u64 0), (.int .u64 0), (.int .u64 0), (.int .u64 0)]) true 7 8), q 6 (.mv 9), q 10 (.extract 6 0), q 11 (.extract 6 1), q 4 (.alloc [(.int .u64 0), (.int .u64 0), (.int .u64 0), (.int .u64 0)]), q0 (.store 4 4 10), q 5 (.mv 11)]) (.s (.ops [q 12 (.loadN 4 4), q 13 (.mv 5), q0 (.store 4 2 12), q 3 (.mv 13)]) .ret))
def R9 : List RA := [(.cellN 2 4), (.tmp 3)]
theorem k9 : compF Try.prog (muL []) 9 = some ⟨14, C9_1, R9⟩ := by kernel_rfl
noncomputable abbrev X9 (r : Arr 4 Int × Bool) : Cx := cD Try.prog noG 14 R9 (AV.tup [v24 r.1, AV.bool r.2])
noncomputable def F9 (name : Str) : Option (Arr 4 Int × Bool) :=
 (F34 >>= fun r_2 =>
  (some ((Option.getD (Mp.get r_2 name) (Arr.rep 4 0)), (Option.isSome (Mp.get r_2 name)))))
theorem d9 (name : Str) (r : Arr 4 Int × Bool) (hF : F9 name = some r) : DFun Try.prog noG 9 [AV.str name] (AV.tup [v24 r.1, AV.bool r.2]) := by
 unfold F9 at hF
 refine bD k9 rfl ?_
 have hs : SH [] [] := SH.nil
 generalize ([] : Store) = st at hs ⊢
 refine rn 0 rfl ?_
 refine al hs (cs := c24 (Arr.rep 4 0)) rfl fun st b_1 hs => ?_
 obtain ⟨r_2, g_3, hF⟩ := bind_some hF
 refine rn 1 rfl ?_
 refine cl (ale rfl) (d34 _ g_3 _ _ _ hs fun st b_4 hs => ?_)
 refine rn 1 rfl ?_
 refine W.o (e_lookupS2 (f := v24) (z := (Arr.rep 4 0)) rfl (hs.g 0 rfl) rfl rfl) ?_
 refine rn 3 rfl ?_
 refine al hs (cs := c24 (Arr.rep 4 0)) rfl fun st b_5 hs => ?_
 refine sr hs 0 rfl rfl rfl (cs' := c24 (Option.getD (Mp.get r_2 name) (Arr.rep 4 0))) rfl rfl fun st hs => ?_
 refine rn 1 rfl ?_
 refine W.o (lN (s := c24 (Option.getD (Mp.get r_2 name) (Arr.rep 4 0))) rfl (hs.g 0 rfl) rfl rfl) ?_
 refine rn 1 rfl ?_
 refine sr hs 2 rfl rfl rfl (cs' := c24 (Option.getD (Mp.get r_2 name) (Arr.rep 4 0))) rfl rfl fun st hs => ?_
 refine rn 1 rfl ?_
 cases hF
 exact rD (rl_cellN rfl (hs.g 2 rfl) (LR.whole _ _) (c24_len _) (rlt rl0)) rfl
/-! ### 39: (*paddock/sets.reader).fail -/
def C39_1 : ACode := .s (.ops [q 4 (.alloc [(.int .u64 0), (.int .u64 0), (.int .u64 0), (.int .u64 0), (.int .u8 0), (.bool false)])]) (.s (.s (.ops [q 5 (.mv 0), q 6 (.nilck 5), q 7 (.faddr 2 6), q 8 (.load1 7), q 9 (.binI .lss 8 (ki 0))]) (.cond 9 (.ops [q 10 (.mv 0), q 11 (.mv 1), q 12 (.nilck 10), q 13 (.faddr 2 12), q0 (.store 1 13 11)]) .skip)) (.s (.ops [q 14 (.build [(.int .u64 0), (.int .u64 0), (.int .u64 0), (.int .u64 0), (.int .u8 0), (.bool false)] []), q0 (.store 6 4 14)]) .ret))
def R39 : List RA := [(.cellN 4 6)]
theorem k39 : compF Try.prog (muL []) 39 = some ⟨15, C39_1, R39⟩ := by kernel_rfl
noncomputable abbrev X39 (K : AV → Store → Prop) : Cx := cK Try.prog noG 15 R39 (isK K)
noncomputable def F39 (r_ : T52) (at_ : Int) : Option (T54 × T52) :=
 (if (decide (r_.bad < 0)) = true then
  (some (({ set := (Arr.rep 4 0), c := 0, one := false } : T54), ({ r_ with bad := at_ } : T52)))
 else
  (some (({ set := (Arr.rep 4 0), c := 0, one := false } : T54), r_)))
theorem d39 (r_ : T52) (at_ : Int) (r : T54 × T52) (hF : F39 r_ at_ = some r) : ∀ (K : AV → Store → Prop) (Ls : List Asn) (iP0 : Nat), (∀ st, SH st (pt iP0 (.cells (c52 r.2)) :: Ls) → K (v54 r.1) st) → ∀ (st : Store), SH st (pt iP0 (.cells (c52 r_)) :: Ls) → XCall Try.prog noG 39 [.ptr iP0 0, AV.int .i64 at_] st K := by
 unfold F39 at hF
 intro K Ls iP0 hK  st hs
 refine bS k39 rfl ?_
 refine rn 0 rfl ?_
 refine al hs (cs := c54 ({ set := (Arr.rep 4 0), c := 0, one := false } : T54)) rfl fun st b_1 hs => ?_
 refine rn 1 rfl ?_
 refine W.o (e_nilck rfl (hs.g 1 rfl)) ?_
 refine W.o (e_faddr rfl (hs.g 1 rfl)) ?_
 refine W.o (l1 rfl (hs.g 1 rfl) rfl) ?_
 refine rn 1 rfl ?_
 refine ci hF rfl (fun c_2 hF => ?_) (fun c_2 hF => ?_)
 · refine rn 2 rfl ?_
   refine W.o (e_nilck rfl (hs.g 1 rfl)) ?_
   refine W.o (e_faddr rfl (hs.g 1 rfl)) ?_
   refine sr hs 1 rfl rfl rfl (cs' := c52 ({ r_ with bad := at_ } : T52)) rfl rfl fun st hs => ?_
   refine rn 0 rfl ?_
   refine W.o (bR (cs := c54 ({ set := (Arr.rep 4 0), c := 0, one := false } : T54)) rfl rfl) ?_
   refine sr hs 0 rfl rfl rfl (cs' := c54 ({ set := (Arr.rep 4 0), c := 0, one := false } : T54)) rfl rfl fun st hs => ?_
   refine rn 0 rfl ?_
   cases hF
   exact rS (rl_cellN rfl (hs.g 0 rfl) (LR.whole _ _) (c54_len _) rl0) (hK _ (hs.p 2 [1] rfl)) rfl
 · refine rn 0 rfl ?_
   refine W.o (bR (cs := c54 ({ set := (Arr.rep 4 0), c := 0, one := false } : T54)) rfl rfl) ?_
   refine sr hs 0 rfl rfl rfl (cs' := c54 ({ set := (Arr.rep 4 0), c := 0, one := false } : T54)) rfl rfl fun st hs => ?_
   refine rn 0 rfl ?_
   cases hF
   exact rS (rl_cellN rfl (hs.g 0 rfl) (LR.whole _ _) (c54_len _) rl0) (hK _ (hs.p 2 [1] rfl)) rfl
/-! ### 44: (*paddock/sets.reader).named -/
def C44_17 : ACode := .s (.ops [q 24 (.mv 5), q 25 (.mv 0), q 26 (.nilck 25), q 27 (.faddr 0 26), q 28 (.load1 27), q 29 (.lenS 28), q 30 (.binI .lss 24 29)]) (.cond 30 .skip (.exit 0))
def C44_36 : ACode := .s (.ops [q 74 (.mv 0), q 75 (.mv 3), qc 76 39 [74, 75], q0 (.store 6 2 76)]) .ret
def C44_40 : ACode := .s (.ops [q 77 (.mv 0), q 78 (.mv 5), q 79 (.binI .add 78 (ki 2)), q 80 (.nilck 77), q 81 (.faddr 1 80), q0 (.store 1 81 79)]) (.s (.ops [q 82 (.loadN 4 6), q 83 (.build [(.int .u64 0), (.int .u64 0), (.int .u64 0), (.int .u64 0), (.int .u8 0), (.bool false)] [(0, (4, 82))]), q0 (.store 6 2 83)]) .ret)
def C44_45 : ACode := .ops [q 31 (.mv 5), q 32 (.binI .add 31 (ki 1)), q 5 (.mv 32)]
def C44_22 : ACode := .s (.block 1 (.s (.s (.ops [q 33 (.mv 0), q 34 (.nilck 33), q 35 (.faddr 0 34), q 36 (.load1 35), q 37 (.mv 5), q 38 (.ixS 36 37), q 39 (.binI .neq 38 (ku 58))]) (.cond 39 (.exit 1) .skip)) (.s (.ops [q 41 (.mv 0), q 42 (.nilck 41), q 43 (.faddr 0 42), q 44 (.load1 43), q 45 (.mv 3), q 46 (.binI .add 45 (ki 2)), q 47 (.mv 5), q 48 (.slS 44 (.some 46) (.some 47)), qc 49 9 [48], q 40 (.mv 49), q 50 (.extract 40 0), q 51 (.extract 40 1), q 6 (.alloc [(.int .u64 0), (.int .u64 0), (.int .u64 0), (.int .u64 0)]), q0 (.store 4 6 50), q 7 (.mv 51)]) (.s (.s (.ops [q 52 (.mv 7), q 53 (.un .not 52), q 54 (.mv 53), (q 55 (.mv 5)).n 54, (q 56 (.binI .add 55 (ki 1))).n 54, (q 57 (.mv 0)).n 54, (q 58 (.nilck 57)).n 54, (q 59 (.faddr 0 58)).n 54, (q 60 (.load1 59)).n 54, (q 61 (.lenS 60)).n 54, (q 62 (.binI .geq 56 61)).n 54, q 63 (.pick 54 (.c (.bool true)) 62), q 64 (.mv 63), (q 65 (.mv 0)).n 64, (q 66 (.nilck 65)).n 64, (q 67 (.faddr 0 66)).n 64, (q 68 (.load1 67)).n 64, (q 69 (.mv 5)).n 64, (q 70 (.binI .add 69 (ki 1))).n 64, (q 71 (.ixS 68 70)).n 64, (q 72 (.binI .neq 71 (ku 93))).n 64, q 73 (.pick 64 (.c (.bool true)) 72)]) (.cond 73 C44_36 .skip)) C44_40)))) C44_45
def C44_16 : ACode := .s C44_17 C44_22
def C44_46 : ACode := .s (.ops [q 84 (.mv 0), q 85 (.mv 3), qc 86 39 [84, 85], q0 (.store 6 2 86)]) .ret
def O44_52o1 : List AOp := (q 111 (.mv 3)).n 106 :: (q 112 (.binI .add 111 (ki 4))).n 106 :: (q 113 (.ixS 110 112)).n 106 :: (q 114 (.binI .neq 113 (ku 93))).n 106 :: q 115 (.pick 106 (.c (.bool true)) 114) :: []
def O44_52o0 : List AOp := q 87 (.mv 3) :: q 88 (.binI .add 87 (ki 4)) :: q 89 (.mv 0) :: q 90 (.nilck 89) :: q 91 (.faddr 0 90) :: q 92 (.load1 91) :: q 93 (.lenS 92) :: q 94 (.binI .geq 88 93) :: q 95 (.mv 94) :: (q 96 (.mv 0)).n 95 :: (q 97 (.nilck 96)).n 95 :: (q 98 (.faddr 0 97)).n 95 :: (q 99 (.load1 98)).n 95 :: (q 100 (.mv 3)).n 95 :: (q 101 (.binI .add 100 (ki 3))).n 95 :: (q 102 (.ixS 99 101)).n 95 :: (q 103 (.mv 4)).n 95 :: (q 104 (.binI .neq 102 103)).n 95 :: q 105 (.pick 95 (.c (.bool true)) 104) :: q 106 (.mv 105) :: (q 107 (.mv 0)).n 106 :: (q 108 (.nilck 107)).n 106 :: (q 109 (.faddr 0 108)).n 106 :: (q 110 (.load1 109)).n 106 :: O44_52o1
def C44_54 : ACode := .s (.ops [q 116 (.mv 0), q 117 (.mv 3), qc 118 39 [116, 117], q0 (.store 6 2 118)]) .ret
def C44_58 : ACode := .s (.ops [q 119 (.mv 0), q 120 (.nilck 119), q 121 (.faddr 0 120), q 122 (.load1 121), q 123 (.mv 3), q 124 (.binI .add 123 (ki 2)), q 125 (.ixS 122 124), q 8 (.mv 125)]) (.s (.ops [q 126 (.mv 0), q 127 (.mv 3), q 128 (.binI .add 127 (ki 5)), q 129 (.nilck 126), q 130 (.faddr 1 129), q0 (.store 1 130 128)]) (.s (.ops [q 131 (.mv 8), q 132 (.bslice 1 1 false [(.int .u8 0)] [(0, (1, 131))] false), qc 133 12 [132], q 134 (.mv 8), q 135 (.mv 4), q 136 (.binI .eql 135 (ku 46)), q 137 (.build [(.int .u64 0), (.int .u64 0), (.int .u64 0), (.int .u64 0), (.int .u8 0), (.bool false)] [(0, (4, 133)), (4, (1, 134)), (5, (1, 136))]), q0 (.store 6 2 137)]) .ret))
def C44_50 : ACode := .s (.s (.ops O44_52o0) (.cond 115 C44_54 .skip)) C44_58
def C44_1 : ACode := .s (.ops [q 2 (.alloc [(.int .u64 0), (.int .u64 0), (.int .u64 0), (.int .u64 0), (.int .u8 0), (.bool false)])]) (.s (.ops [q 9 (.mv 0), q 10 (.nilck 9), q 11 (.faddr 1 10), q 12 (.load1 11), q 3 (.mv 12)]) (.s (.ops [q 13 (.mv 0), q 14 (.nilck 13), q 15 (.faddr 0 14), q 16 (.load1 15), q 17 (.mv 3), q 18 (.binI .add 17 (ki 1)), q 19 (.ixS 16 18), q 4 (.mv 19)]) (.s (.s (.ops [q 20 (.mv 4), q 21 (.binI .eql 20 (ku 58))]) (.cond 21 (.s (.s (.ops [q 22 (.mv 3), q 23 (.binI .add 22 (ki 2)), q 5 (.mv 23)]) (.block 0 (.loop C44_16))) C44_46) .skip)) C44_50)))
def R44 : List RA := [(.cellN 2 6)]
theorem k44 : compF Try.prog (muL []) 44 = some ⟨138, C44_1, R44⟩ := by kernel_rfl
noncomputable abbrev X44 (K : AV → Store → Prop) : Cx := cK Try.prog noG 138 R44 (isK K)
inductive St44 where
 | p1 (at_ : Int) (k : Int) (r_ : T52) (t2_ : T54)
 | p2 (at_ : Int) (r_ : T52) (t2_ : T54)
 | p3 (at_ : Int) (r_ : T52) (t2_ : T54)
noncomputable def G44 : St44 → Option (T54 × T52)
 | .p1 at_ k r_ t2_ =>
  (if (decide (k < ((r_.s).length : Int))) = true then
   (ix r_.s k >>= fun b_18 =>
    (if ((b_18.toNat : Int) != 58) = true then
     (G44 (.p1 at_ (IntKind.wrap .i64 (k + 1)) r_ t2_))
    else
     (strcut r_.s (IntKind.wrap .i64 (at_ + 2)) k >>= fun w_21 =>
      (F9 w_21 >>= fun r_23 =>
       (if (!r_23.2) = true then
        (G44 (.p3 at_ r_ t2_))
       else
        (if (decide ((IntKind.wrap .i64 (k + 1)) ≥ ((r_.s).length : Int))) = true then
         (G44 (.p3 at_ r_ t2_))
        else
         (ix r_.s (IntKind.wrap .i64 (k + 1)) >>= fun b_28 =>
          (if ((b_28.toNat : Int) != 93) = true then
           (G44 (.p3 at_ r_ t2_))
          else
           (some (({ set := r_23.1, c := 0, one := false } : T54), ({ r_ with i := IntKind.wrap .i64 (k + 2) } : T52)))))))))))
  else
   (F39 r_ at_ >>= fun r_31 =>
    (some (r_31.1, r_31.2))))
 | .p2 at_ r_ t2_ =>
  (F39 r_ at_ >>= fun r_33 =>
   (some (r_33.1, r_33.2)))
 | .p3 at_ r_ t2_ =>
  (F39 r_ at_ >>= fun r_35 =>
   (some (r_35.1, r_35.2)))
 partial_fixpoint
def M44 (x : St44) (r : T54 × T52) : Prop := match x with
 | .p1 at_ k r_ t2_ => ∀ (K : AV → Store → Prop) (Ls : List Asn) (iP0 : Nat), (∀ st, SH st (pt iP0 (.cells (c52 r.2)) :: Ls) → K (v54 r.1) st) → ∀ (tm : Fr) (st : Store) (io1 : Nat), Frm tm [(0, .ptr iP0 0), (2, .ptr io1 0), (3, AV.int .i64 at_), (5, AV.int .i64 k)] → SH st (pt iP0 (.cells (c52 r_)) :: pt io1 (.cells (c54 t2_)) :: Ls) → W (X44 K) [.lp C44_16, .blk 0, .code C44_46, .code C44_50] tm st
 | .p2 at_ r_ t2_ => ∀ (K : AV → Store → Prop) (Ls : List Asn) (iP0 : Nat), (∀ st, SH st (pt iP0 (.cells (c52 r.2)) :: Ls) → K (v54 r.1) st) → ∀ (tm : Fr) (st : Store) (io1 : Nat), Frm tm [(0, .ptr iP0 0), (2, .ptr io1 0), (3, AV.int .i64 at_)] → SH st (pt iP0 (.cells (c52 r_)) :: pt io1 (.cells (c54 t2_)) :: Ls) → W (X44 K) [.code C44_54, .code C44_58] tm st
 | .p3 at_ r_ t2_ => ∀ (K : AV → Store → Prop) (Ls : List Asn) (iP0 : Nat), (∀ st, SH st (pt iP0 (.cells (c52 r.2)) :: Ls) → K (v54 r.1) st) → ∀ (tm : Fr) (st : Store) (io1 : Nat), Frm tm [(0, .ptr iP0 0), (2, .ptr io1 0), (3, AV.int .i64 at_)] → SH st (pt iP0 (.cells (c52 r_)) :: pt io1 (.cells (c54 t2_)) :: Ls) → W (X44 K) [.code C44_36, .code C44_40, .blk 1, .code C44_45, .lp C44_16, .blk 0, .code C44_46, .code C44_50] tm st
theorem w44 : ∀ (x : St44) (r : T54 × T52), G44 x = some r → M44 x r := by
 refine G44.partial_correctness M44 ?_
 intro g ih x r hF
 cases x with
 | p1 at_ k r_ t2_ =>
  dsimp only at hF
  intro K Ls iP0 hK tm st io1 hf hs
  refine en hf ?_
  refine lp ?_
  refine rn 2 rfl ?_
  refine W.o (e_nilck rfl (hs.g 0 rfl)) ?_
  refine W.o (e_faddr rfl (hs.g 0 rfl)) ?_
  refine W.o (l1 rfl (hs.g 0 rfl) rfl) ?_
  refine rn 2 rfl ?_
  refine ci hF rfl (fun c_17 hF => ?_) (fun c_17 hF => ?_)
  · refine rn 1 rfl ?_
    refine W.o (e_nilck rfl (hs.g 0 rfl)) ?_
    refine W.o (e_faddr rfl (hs.g 0 rfl)) ?_
    refine W.o (l1 rfl (hs.g 0 rfl) rfl) ?_
    obtain ⟨b_18, g_19, hF⟩ := bind_some hF
    refine rn 1 rfl ?_
    refine W.o (e_ixS rfl rfl g_19) ?_
    refine rn 1 rfl ?_
    refine ci hF rfl (fun c_20 hF => ?_) (fun c_20 hF => ?_)
    · refine rn 3 rfl ?_
      exact ih (.p1 at_ (IntKind.wrap .i64 (k + 1)) r_ t2_) _ hF K Ls iP0 hK _ _ io1 ⟨rfl, rfl, rfl, rfl, trivial⟩ hs
    · refine rn 1 rfl ?_
      refine W.o (e_nilck rfl (hs.g 0 rfl)) ?_
      refine W.o (e_faddr rfl (hs.g 0 rfl)) ?_
      refine W.o (l1 rfl (hs.g 0 rfl) rfl) ?_
      obtain ⟨w_21, g_22, hF⟩ := bind_some hF
      refine rn 3 rfl ?_
      refine W.o (e_slS2 rfl rfl rfl g_22) ?_
      obtain ⟨r_23, g_24, hF⟩ := bind_some hF
      refine df (d9 w_21 _ g_24) rfl ?_
      refine rn 3 rfl ?_
      refine al hs (cs := c24 (Arr.rep 4 0)) rfl fun st b_25 hs => ?_
      refine sr hs 0 rfl rfl rfl (cs' := c24 r_23.1) rfl rfl fun st hs => ?_
      refine rn 4 rfl ?_
      refine bi hF (fun c_26 hF => ?_) (fun c_26 hF => ?_)
      · refine wfx 54 rfl c_26 ?_
        refine rn 19 rfl ?_
        refine ct rfl rfl ?_
        exact ih (.p3 at_ r_ t2_) _ hF K Ls iP0 hK _ _ io1 ⟨rfl, rfl, rfl, trivial⟩ (hs.p 3 [1, 1] rfl)
      · refine wfx 54 rfl c_26 ?_
        refine rn 3 rfl ?_
        refine W.on rfl rfl ?_
        refine W.o (e_nilck rfl (hs.g 1 rfl)) ?_
        refine W.on rfl rfl ?_
        refine W.o (e_faddr rfl (hs.g 1 rfl)) ?_
        refine W.on rfl rfl ?_
        refine W.o (l1 rfl (hs.g 1 rfl) rfl) ?_
        refine rn 4 rfl ?_
        refine bi hF (fun c_27 hF => ?_) (fun c_27 hF => ?_)
        · refine wfx 64 rfl c_27 ?_
          refine rn 9 rfl ?_
          refine ct rfl rfl ?_
          exact ih (.p3 at_ r_ t2_) _ hF K Ls iP0 hK _ _ io1 ⟨rfl, rfl, rfl, trivial⟩ (hs.p 3 [1, 1] rfl)
        · refine wfx 64 rfl c_27 ?_
          refine rn 1 rfl ?_
          refine W.on rfl rfl ?_
          refine W.o (e_nilck rfl (hs.g 1 rfl)) ?_
          refine W.on rfl rfl ?_
          refine W.o (e_faddr rfl (hs.g 1 rfl)) ?_
          refine W.on rfl rfl ?_
          refine W.o (l1 rfl (hs.g 1 rfl) rfl) ?_
          obtain ⟨b_28, g_29, hF⟩ := bind_some hF
          refine rn 2 rfl ?_
          refine W.on rfl rfl ?_
          refine W.o (e_ixS rfl rfl g_29) ?_
          refine rn 2 rfl ?_
          refine ci hF rfl (fun c_30 hF => ?_) (fun c_30 hF => ?_)
          · exact ih (.p3 at_ r_ t2_) _ hF K Ls iP0 hK _ _ io1 ⟨rfl, rfl, rfl, trivial⟩ (hs.p 3 [1, 1] rfl)
          · refine rn 3 rfl ?_
            refine W.o (e_nilck rfl (hs.g 1 rfl)) ?_
            refine W.o (e_faddr rfl (hs.g 1 rfl)) ?_
            refine sr hs 1 rfl rfl rfl (cs' := c52 ({ r_ with i := IntKind.wrap .i64 (k + 2) } : T52)) rfl rfl fun st hs => ?_
            refine rn 0 rfl ?_
            refine W.o (lN (s := c24 r_23.1) rfl (hs.g 0 rfl) rfl rfl) ?_
            refine W.o (bR (cs := c54 ({ set := r_23.1, c := 0, one := false } : T54)) rfl rfl) ?_
            refine sr hs 2 rfl rfl rfl (cs' := c54 ({ set := r_23.1, c := 0, one := false } : T54)) rfl rfl fun st hs => ?_
            refine rn 0 rfl ?_
            cases hF
            exact rS (rl_cellN rfl (hs.g 2 rfl) (LR.whole _ _) (c54_len _) rl0) (hK _ (hs.p 3 [1] rfl)) rfl
  · obtain ⟨r_31, g_32, hF⟩ := bind_some hF
    refine rn 2 rfl ?_
    refine cl (ale rfl) (d39 r_ at_ _ g_32 _ _ iP0 (fun st hs => ?_) _ hs)
    refine sr hs 1 rfl rfl rfl (cs' := c54 r_31.1) rfl rfl fun st hs => ?_
    refine rn 0 rfl ?_
    cases hF
    exact rS (rl_cellN rfl (hs.g 1 rfl) (LR.whole _ _) (c54_len _) rl0) (hK _ (hs.p 2 [0] rfl)) rfl
 | p2 at_ r_ t2_ =>
  dsimp only at hF
  intro K Ls iP0 hK tm st io1 hf hs
  refine en hf ?_
  obtain ⟨r_33, g_34, hF⟩ := bind_some hF
  refine rn 2 rfl ?_
  refine cl (ale rfl) (d39 r_ at_ _ g_34 _ _ iP0 (fun st hs => ?_) _ hs)
  refine sr hs 1 rfl rfl rfl (cs' := c54 r_33.1) rfl rfl fun st hs => ?_
  refine rn 0 rfl ?_
  cases hF
  exact rS (rl_cellN rfl (hs.g 1 rfl) (LR.whole _ _) (c54_len _) rl0) (hK _ (hs.p 2 [0] rfl)) rfl
 | p3 at_ r_ t2_ =>
  dsimp only at hF
  intro K Ls iP0 hK tm st io1 hf hs
  refine en hf ?_
  obtain ⟨r_35, g_36, hF⟩ := bind_some hF
  refine rn 2 rfl ?_
  refine cl (ale rfl) (d39 r_ at_ _ g_36 _ _ iP0 (fun st hs => ?_) _ hs)
  refine sr hs 1 rfl rfl rfl (cs' := c54 r_35.1) rfl rfl fun st hs => ?_
  refine rn 0 rfl ?_
  cases hF
  exact rS (rl_cellN rfl (hs.g 1 rfl) (LR.whole _ _) (c54_len _) rl0) (hK _ (hs.p 2 [0] rfl)) rfl
noncomputable def F44 (r_ : T52) : Option (T54 × T52) :=
 (ix r_.s (IntKind.wrap .i64 (r_.i + 1)) >>= fun b_2 =>
  (if ((b_2.toNat : Int) == 58) = true then
   (G44 (.p1 r_.i (IntKind.wrap .i64 (r_.i + 2)) r_ ({ set := (Arr.rep 4 0), c := 0, one := false } : T54)))
  else
   (if (decide ((IntKind.wrap .i64 (r_.i + 4)) ≥ ((r_.s).length : Int))) = true then
    (G44 (.p2 r_.i r_ ({ set := (Arr.rep 4 0), c := 0, one := false } : T54)))
   else
    (ix r_.s (IntKind.wrap .i64 (r_.i + 3)) >>= fun b_6 =>
     (if ((b_6.toNat : Int) != (b_2.toNat : Int)) = true then
      (G44 (.p2 r_.i r_ ({ set := (Arr.rep 4 0), c := 0, one := false } : T54)))
     else
      (ix r_.s (IntKind.wrap .i64 (r_.i + 4)) >>= fun b_9 =>
       (if ((b_9.toNat : Int) != 93) = true then
        (G44 (.p2 r_.i r_ ({ set := (Arr.rep 4 0), c := 0, one := false } : T54)))
       else
        (ix r_.s (IntKind.wrap .i64 (r_.i + 2)) >>= fun b_12 =>
         (F12 (some ([(b_12.toNat : Int)] : List Int)) >>= fun r_15 =>
          (some (({ set := r_15, c := (b_12.toNat : Int), one := ((b_2.toNat : Int) == 46) } : T54), ({ r_ with i := IntKind.wrap .i64 (r_.i + 5) } : T52))))))))))))
theorem d44 (r_ : T52) (r : T54 × T52) (hF : F44 r_ = some r) : ∀ (K : AV → Store → Prop) (Ls : List Asn) (iP0 : Nat), (∀ st, SH st (pt iP0 (.cells (c52 r.2)) :: Ls) → K (v54 r.1) st) → ∀ (st : Store), SH st (pt iP0 (.cells (c52 r_)) :: Ls) → XCall Try.prog noG 44 [.ptr iP0 0] st K := by
 unfold F44 at hF
 intro K Ls iP0 hK  st hs
 refine bS k44 rfl ?_
 refine rn 0 rfl ?_
 refine al hs (cs := c54 ({ set := (Arr.rep 4 0), c := 0, one := false } : T54)) rfl fun st b_1 hs => ?_
 refine rn 1 rfl ?_
 refine W.o (e_nilck rfl (hs.g 1 rfl)) ?_
 refine W.o (e_faddr rfl (hs.g 1 rfl)) ?_
 refine W.o (l1 rfl (hs.g 1 rfl) rfl) ?_
 refine rn 2 rfl ?_
 refine W.o (e_nilck rfl (hs.g 1 rfl)) ?_
 refine W.o (e_faddr rfl (hs.g 1 rfl)) ?_
 refine W.o (l1 rfl (hs.g 1 rfl) rfl) ?_
 obtain ⟨b_2, g_3, hF⟩ := bind_some hF
 refine rn 2 rfl ?_
 refine W.o (e_ixS rfl rfl g_3) ?_
 refine rn 3 rfl ?_
 refine ci hF rfl (fun c_4 hF => ?_) (fun c_4 hF => ?_)
 · refine rn 3 rfl ?_
   exact w44 (.p1 r_.i (IntKind.wrap .i64 (r_.i + 2)) r_ ({ set := (Arr.rep 4 0), c := 0, one := false } : T54)) _ hF K Ls iP0 hK _ _ b_1 ⟨rfl, rfl, rfl, rfl, trivial⟩ (hs.p 2 [1, 0] rfl)
 · refine rn 3 rfl ?_
   refine W.o (e_nilck rfl (hs.g 1 rfl)) ?_
   refine W.o (e_faddr rfl (hs.g 1 rfl)) ?_
   refine W.o (l1 rfl (hs.g 1 rfl) rfl) ?_
   refine rn 3 rfl ?_
   refine bi hF (fun c_5 hF => ?_) (fun c_5 hF => ?_)
   · refine wfx 95 rfl c_5 ?_
     refine rn 20 rfl ?_
     refine ct rfl rfl ?_
     exact w44 (.p2 r_.i r_ ({ set := (Arr.rep 4 0), c := 0, one := false } : T54)) _ hF K Ls iP0 hK _ _ b_1 ⟨rfl, rfl, rfl, trivial⟩ (hs.p 2 [1, 0] rfl)
   · refine wfx 95 rfl c_5 ?_
     refine rn 1 rfl ?_
     refine W.on rfl rfl ?_
     refine W.o (e_nilck rfl (hs.g 1 rfl)) ?_
     refine W.on rfl rfl ?_
     refine W.o (e_faddr rfl (hs.g 1 rfl)) ?_
     refine W.on rfl rfl ?_
     refine W.o (l1 rfl (hs.g 1 rfl) rfl) ?_
     obtain ⟨b_6, g_7, hF⟩ := bind_some hF
     refine rn 2 rfl ?_
     refine W.on rfl rfl ?_
     refine W.o (e_ixS rfl rfl g_7) ?_
     refine rn 4 rfl ?_
     refine bi hF (fun c_8 hF => ?_) (fun c_8 hF => ?_)
     · refine wfx 106 rfl c_8 ?_
       refine rn 9 rfl ?_
       refine ct rfl rfl ?_
       exact w44 (.p2 r_.i r_ ({ set := (Arr.rep 4 0), c := 0, one := false } : T54)) _ hF K Ls iP0 hK _ _ b_1 ⟨rfl, rfl, rfl, trivial⟩ (hs.p 2 [1, 0] rfl)
     · refine wfx 106 rfl c_8 ?_
       refine rn 1 rfl ?_
       refine W.on rfl rfl ?_
       refine W.o (e_nilck rfl (hs.g 1 rfl)) ?_
       refine W.on rfl rfl ?_
       refine W.o (e_faddr rfl (hs.g 1 rfl)) ?_
       refine W.on rfl rfl ?_
       refine W.o (l1 rfl (hs.g 1 rfl) rfl) ?_
       obtain ⟨b_9, g_10, hF⟩ := bind_some hF
       refine rn 2 rfl ?_
       refine W.on rfl rfl ?_
       refine W.o (e_ixS rfl rfl g_10) ?_
       refine rn 2 rfl ?_
       refine ci hF rfl (fun c_11 hF => ?_) (fun c_11 hF => ?_)
       · exact w44 (.p2 r_.i r_ ({ set := (Arr.rep 4 0), c := 0, one := false } : T54)) _ hF K Ls iP0 hK _ _ b_1 ⟨rfl, rfl, rfl, trivial⟩ (hs.p 2 [1, 0] rfl)
       · refine rn 1 rfl ?_
         refine W.o (e_nilck rfl (hs.g 1 rfl)) ?_
         refine W.o (e_faddr rfl (hs.g 1 rfl)) ?_
         refine W.o (l1 rfl (hs.g 1 rfl) rfl) ?_
         obtain ⟨b_12, g_13, hF⟩ := bind_some hF
         refine rn 2 rfl ?_
         refine W.o (e_ixS rfl rfl g_13) ?_
         refine rn 4 rfl ?_
         refine W.o (e_nilck rfl (hs.g 1 rfl)) ?_
         refine W.o (e_faddr rfl (hs.g 1 rfl)) ?_
         refine sr hs 1 rfl rfl rfl (cs' := c52 ({ r_ with i := IntKind.wrap .i64 (r_.i + 5) } : T52)) rfl rfl fun st hs => ?_
         refine rn 1 rfl ?_
         refine bs (f := AV.int .u8) ([(b_12.toNat : Int)] : List Int) hs rfl rfl rfl rfl fun st b_14 hs => ?_
         obtain ⟨r_15, g_16, hF⟩ := bind_some hF
         refine df' (d12 (some ([(b_12.toNat : Int)] : List Int)) _ g_16) (ds := [slV 1 (AV.int .u8) (some ([(b_12.toNat : Int)] : List Int))]) (dsl_cons (dsw (es := 1) (f := AV.int .u8) (o := (some ([(b_12.toNat : Int)] : List Int))) (id := b_14)) dsl_nil) ?_
         refine rn 3 rfl ?_
         refine W.o (bR (cs := c54 ({ set := r_15, c := (b_12.toNat : Int), one := ((b_2.toNat : Int) == 46) } : T54)) rfl rfl) ?_
         refine sr hs 1 rfl rfl rfl (cs' := c54 ({ set := r_15, c := (b_12.toNat : Int), one := ((b_2.toNat : Int) == 46) } : T54)) rfl rfl fun st hs => ?_
         refine rn 0 rfl ?_
         cases hF
         exact rS (rl_cellN rfl (hs.g 1 rfl) (LR.whole _ _) (c54_len _) rl0) (hK _ (hs.p 3 [2] rfl)) rfl
/-! ### 38: (*paddock/sets.reader).item -/
def O38_15q2 : List AOp := (q 78 (.load1 77)).n 70 :: (q 79 (.binI .add 78 (ki 1))).n 70 :: (q 80 (.ixS 74 79)).n 70 :: (q 81 (.binI .eql 80 (ku 46))).n 70 :: (q 82 (.pick 70 (.c (.bool true)) 81)).y 45 :: q 83 (.pick 45 82 (.c (.bool false))) :: []
def O38_15q1 : List AOp := (q 54 (.binI .add 53 (ki 1))).y 45 :: (q 55 (.ixS 49 54)).y 45 :: (q 56 (.binI .eql 55 (ku 58))).y 45 :: (q 57 (.mv 56)).y 45 :: (q 58 (.mv 0)).n 57 :: (q 59 (.nilck 58)).n 57 :: (q 60 (.faddr 0 59)).n 57 :: (q 61 (.load1 60)).n 57 :: (q 62 (.mv 0)).n 57 :: (q 63 (.nilck 62)).n 57 :: (q 64 (.faddr 1 63)).n 57 :: (q 65 (.load1 64)).n 57 :: (q 66 (.binI .add 65 (ki 1))).n 57 :: (q 67 (.ixS 61 66)).n 57 :: (q 68 (.binI .eql 67 (ku 61))).n 57 :: (q 69 (.pick 57 (.c (.bool true)) 68)).y 45 :: (q 70 (.mv 69)).y 45 :: (q 71 (.mv 0)).n 70 :: (q 72 (.nilck 71)).n 70 :: (q 73 (.faddr 0 72)).n 70 :: (q 74 (.load1 73)).n 70 :: (q 75 (.mv 0)).n 70 :: (q 76 (.nilck 75)).n 70 :: (q 77 (.faddr 1 76)).n 70 :: O38_15q2
def O38_15q0 : List AOp := q 30 (.mv 3) :: q 31 (.binI .eql 30 (ku 91)) :: q 32 (.mv 31) :: (q 33 (.mv 0)).y 32 :: (q 34 (.nilck 33)).y 32 :: (q 35 (.faddr 1 34)).y 32 :: (q 36 (.load1 35)).y 32 :: (q 37 (.binI .add 36 (ki 1))).y 32 :: (q 38 (.mv 0)).y 32 :: (q 39 (.nilck 38)).y 32 :: (q 40 (.faddr 0 39)).y 32 :: (q 41 (.load1 40)).y 32 :: (q 42 (.lenS 41)).y 32 :: (q 43 (.binI .lss 37 42)).y 32 :: q 44 (.pick 32 43 (.c (.bool false))) :: q 45 (.mv 44) :: (q 46 (.mv 0)).y 45 :: (q 47 (.nilck 46)).y 45 :: (q 48 (.faddr 0 47)).y 45 :: (q 49 (.load1 48)).y 45 :: (q 50 (.mv 0)).y 45 :: (q 51 (.nilck 50)).y 45 :: (q 52 (.faddr 1 51)).y 45 :: (q 53 (.load1 52)).y 45 :: O38_15q1
def C38_17 : ACode := .s (.ops [q 84 (.mv 0), qc 85 44 [84], q0 (.store 6 2 85)]) .ret
def O38_25q1 : List AOp := (q 117 (.binI .eql 116 (ku 110))).y 107 :: q 118 (.pick 107 117 (.c (.bool false))) :: []
def O38_25q0 : List AOp := q 93 (.mv 3) :: q 94 (.binI .eql 93 (ku 92)) :: q 95 (.mv 94) :: (q 96 (.mv 0)).y 95 :: (q 97 (.nilck 96)).y 95 :: (q 98 (.faddr 1 97)).y 95 :: (q 99 (.load1 98)).y 95 :: (q 100 (.mv 0)).y 95 :: (q 101 (.nilck 100)).y 95 :: (q 102 (.faddr 0 101)).y 95 :: (q 103 (.load1 102)).y 95 :: (q 104 (.lenS 103)).y 95 :: (q 105 (.binI .lss 99 104)).y 95 :: q 106 (.pick 95 105 (.c (.bool false))) :: q 107 (.mv 106) :: (q 108 (.mv 0)).y 107 :: (q 109 (.nilck 108)).y 107 :: (q 110 (.faddr 0 109)).y 107 :: (q 111 (.load1 110)).y 107 :: (q 112 (.mv 0)).y 107 :: (q 113 (.nilck 112)).y 107 :: (q 114 (.faddr 1 113)).y 107 :: (q 115 (.load1 114)).y 107 :: (q 116 (.ixS 111 115)).y 107 :: O38_25q1
def C38_31 : ACode := .s (.ops [q 126 (.mv 3), q 127 (.bslice 1 1 false [(.int .u8 0)] [(0, (1, 126))] false), qc 128 12 [127], q 129 (.mv 3), q 130 (.build [(.int .u64 0), (.int .u64 0), (.int .u64 0), (.int .u64 0), (.int .u8 0), (.bool false)] [(0, (4, 128)), (4, (1, 129)), (5, (1, (.c (.bool true))))]), q0 (.store 6 2 130)]) .ret
def C38_21 : ACode := .s (.ops [q 86 (.mv 0), q 87 (.nilck 86), q 88 (.faddr 1 87), q 89 (.load1 88), q 90 (.binI .add 89 (ki 1)), q 91 (.nilck 86), q 92 (.faddr 1 91), q0 (.store 1 92 90)]) (.s (.s (.draw [] 0 0 O38_25q0 []) (.cond 118 (.s (.ops [q 119 (.mv 0), q 120 (.nilck 119), q 121 (.faddr 1 120), q 122 (.load1 121), q 123 (.binI .add 122 (ki 1)), q 124 (.nilck 119), q 125 (.faddr 1 124), q0 (.store 1 125 123)]) (.ops [q 3 (.mv (ku 10))])) .skip)) C38_31)
def C38_1 : ACode := .s (.ops [q 2 (.alloc [(.int .u64 0), (.int .u64 0), (.int .u64 0), (.int .u64 0), (.int .u8 0), (.bool false)])]) (.s (.s (.draw [] 0 0 [q 4 (.mv 0), q 5 (.nilck 4), q 6 (.faddr 1 5), q 7 (.load1 6), q 8 (.mv 0), q 9 (.nilck 8), q 10 (.faddr 0 9), q 11 (.load1 10), q 12 (.lenS 11), q 13 (.binI .geq 7 12)] []) (.cond 13 (.s (.ops [q 14 (.mv 0), q 15 (.mv 0), q 16 (.nilck 15), q 17 (.faddr 0 16), q 18 (.load1 17), q 19 (.lenS 18), qc 20 39 [14, 19], q0 (.store 6 2 20)]) .ret) .skip)) (.s (.draw [] 0 0 [q 21 (.mv 0), q 22 (.nilck 21), q 23 (.faddr 0 22), q 24 (.load1 23), q 25 (.mv 0), q 26 (.nilck 25), q 27 (.faddr 1 26), q 28 (.load1 27), q 29 (.ixS 24 28), q 3 (.mv 29)] []) (.s (.s (.draw [] 0 0 O38_15q0 []) (.cond 83 C38_17 .skip)) C38_21)))
def R38 : List RA := [(.cellN 2 6)]
theorem k38 : compF Try.prog (muL []) 38 = some ⟨131, C38_1, R38⟩ := by kernel_rfl
noncomputable abbrev X38 (K : AV → Store → Prop) : Cx := cK Try.prog noG 131 R38 (isK K)
inductive St38 where
 | p1 (r_ : T52) (t2_ : T54)
 | p2 (c : Int) (r_ : T52) (t2_ : T54)
 | p3 (c : Int) (r_ : T52) (t2_ : T54)
noncomputable def G38 : St38 → Option (T54 × T52)
 | .p1 r_ t2_ =>
  (F44 r_ >>= fun r_18 =>
   (some (r_18.1, r_18.2)))
 | .p2 c r_ t2_ =>
  (if (c == 92) = true then
   (if (decide ((IntKind.wrap .i64 (r_.i + 1)) < ((r_.s).length : Int))) = true then
    (ix r_.s (IntKind.wrap .i64 (r_.i + 1)) >>= fun b_22 =>
     (if ((b_22.toNat : Int) == 110) = true then
      (G38 (.p3 10 ({ r_ with i := IntKind.wrap .i64 ((IntKind.wrap .i64 (r_.i + 1)) + 1) } : T52) t2_))
     else
      (G38 (.p3 c ({ r_ with i := IntKind.wrap .i64 (r_.i + 1) } : T52) t2_))))
   else
    (G38 (.p3 c ({ r_ with i := IntKind.wrap .i64 (r_.i + 1) } : T52) t2_)))
  else
   (G38 (.p3 c ({ r_ with i := IntKind.wrap .i64 (r_.i + 1) } : T52) t2_)))
 | .p3 c r_ t2_ =>
  (F12 (some ([c] : List Int)) >>= fun r_26 =>
   (some (({ set := r_26, c := c, one := true } : T54), r_)))
 partial_fixpoint
def M38 (x : St38) (r : T54 × T52) : Prop := match x with
 | .p1 r_ t2_ => ∀ (K : AV → Store → Prop) (Ls : List Asn) (iP0 : Nat), (∀ st, SH st (pt iP0 (.cells (c52 r.2)) :: Ls) → K (v54 r.1) st) → ∀ (tm : Fr) (st : Store) (io1 : Nat), Frm tm [(0, .ptr iP0 0), (2, .ptr io1 0)] → SH st (pt iP0 (.cells (c52 r_)) :: pt io1 (.cells (c54 t2_)) :: Ls) → W (X38 K) [.code C38_17, .code C38_21] tm st
 | .p2 c r_ t2_ => ∀ (K : AV → Store → Prop) (Ls : List Asn) (iP0 : Nat), (∀ st, SH st (pt iP0 (.cells (c52 r.2)) :: Ls) → K (v54 r.1) st) → ∀ (tm : Fr) (st : Store) (io1 : Nat), Frm tm [(0, .ptr iP0 0), (2, .ptr io1 0), (3, AV.int .u8 c)] → SH st (pt iP0 (.cells (c52 r_)) :: pt io1 (.cells (c54 t2_)) :: Ls) → W (X38 K) [.code C38_21] tm st
 | .p3 c r_ t2_ => ∀ (K : AV → Store → Prop) (Ls : List Asn) (iP0 : Nat), (∀ st, SH st (pt iP0 (.cells (c52 r.2)) :: Ls) → K (v54 r.1) st) → ∀ (tm : Fr) (st : Store) (io1 : Nat), Frm tm [(2, .ptr io1 0), (3, AV.int .u8 c)] → SH st (pt iP0 (.cells (c52 r_)) :: pt io1 (.cells (c54 t2_)) :: Ls) → W (X38 K) [.code C38_31] tm st
theorem w38 : ∀ (x : St38) (r : T54 × T52), G38 x = some r → M38 x r := by
 refine G38.partial_correctness M38 ?_
 intro g ih x r hF
 cases x with
 | p1 r_ t2_ =>
  dsimp only at hF
  intro K Ls iP0 hK tm st io1 hf hs
  refine en hf ?_
  obtain ⟨r_18, g_19, hF⟩ := bind_some hF
  refine rn 1 rfl ?_
  refine cl (ale rfl) (d44 r_ _ g_19 _ _ iP0 (fun st hs => ?_) _ hs)
  refine sr hs 1 rfl rfl rfl (cs' := c54 r_18.1) rfl rfl fun st hs => ?_
  refine rn 0 rfl ?_
  cases hF
  exact rS (rl_cellN rfl (hs.g 1 rfl) (LR.whole _ _) (c54_len _) rl0) (hK _ (hs.p 2 [0] rfl)) rfl
 | p2 c r_ t2_ =>
  dsimp only at hF
  intro K Ls iP0 hK tm st io1 hf hs
  refine en hf ?_
  refine rn 1 rfl ?_
  refine W.o (e_nilck rfl (hs.g 0 rfl)) ?_
  refine W.o (e_faddr rfl (hs.g 0 rfl)) ?_
  refine W.o (l1 rfl (hs.g 0 rfl) rfl) ?_
  refine rn 1 rfl ?_
  refine W.o (e_nilck rfl (hs.g 0 rfl)) ?_
  refine W.o (e_faddr rfl (hs.g 0 rfl)) ?_
  refine sr hs 0 rfl rfl rfl (cs' := c52 ({ r_ with i := IntKind.wrap .i64 (r_.i + 1) } : T52)) rfl rfl fun st hs => ?_
  refine rn 0 rfl ?_
  have h0 := hs
  refine dr0 ?_
  refine dn 3 rfl ?_
  refine bi hF (fun c_20 hF => ?_) (fun c_20 hF => ?_)
  · refine dfx 95 rfl c_20 ?_
    refine dn 1 rfl ?_
    refine don rfl rfl ?_
    refine de rfl (e_nilck rfl (h0.g 0 rfl)) ?_
    refine don rfl rfl ?_
    refine de rfl (e_faddr rfl (h0.g 0 rfl)) ?_
    refine don rfl rfl ?_
    refine de rfl (l1 rfl (h0.g 0 rfl) rfl) ?_
    refine dn 1 rfl ?_
    refine don rfl rfl ?_
    refine de rfl (e_nilck rfl (h0.g 0 rfl)) ?_
    refine don rfl rfl ?_
    refine de rfl (e_faddr rfl (h0.g 0 rfl)) ?_
    refine don rfl rfl ?_
    refine de rfl (l1 rfl (h0.g 0 rfl) rfl) ?_
    refine dn 4 rfl ?_
    refine bi hF (fun c_21 hF => ?_) (fun c_21 hF => ?_)
    · refine dfx 107 rfl c_21 ?_
      refine dn 1 rfl ?_
      refine don rfl rfl ?_
      refine de rfl (e_nilck rfl (h0.g 0 rfl)) ?_
      refine don rfl rfl ?_
      refine de rfl (e_faddr rfl (h0.g 0 rfl)) ?_
      refine don rfl rfl ?_
      refine de rfl (l1 rfl (h0.g 0 rfl) rfl) ?_
      refine dn 1 rfl ?_
      refine don rfl rfl ?_
      refine de rfl (e_nilck rfl (h0.g 0 rfl)) ?_
      refine don rfl rfl ?_
      refine de rfl (e_faddr rfl (h0.g 0 rfl)) ?_
      refine don rfl rfl ?_
      refine de rfl (l1 rfl (h0.g 0 rfl) rfl) ?_
      obtain ⟨b_22, g_23, hF⟩ := bind_some hF
      refine don rfl rfl ?_
      refine de rfl (e_ixS rfl rfl g_23) ?_
      refine dn 2 rfl ?_
      refine dz ?_
      refine rn 0 rfl ?_
      refine ci hF rfl (fun c_24 hF => ?_) (fun c_24 hF => ?_)
      · refine rn 1 rfl ?_
        refine W.o (e_nilck rfl (hs.g 0 rfl)) ?_
        refine W.o (e_faddr rfl (hs.g 0 rfl)) ?_
        refine W.o (l1 rfl (hs.g 0 rfl) rfl) ?_
        refine rn 1 rfl ?_
        refine W.o (e_nilck rfl (hs.g 0 rfl)) ?_
        refine W.o (e_faddr rfl (hs.g 0 rfl)) ?_
        refine sr hs 0 rfl rfl rfl (cs' := c52 ({ r_ with i := IntKind.wrap .i64 ((IntKind.wrap .i64 (r_.i + 1)) + 1) } : T52)) rfl rfl fun st hs => ?_
        refine rj 1 1 rfl ?_
        exact ih (.p3 10 ({ r_ with i := IntKind.wrap .i64 ((IntKind.wrap .i64 (r_.i + 1)) + 1) } : T52) t2_) _ hF K Ls iP0 hK _ _ io1 ⟨rfl, rfl, trivial⟩ hs
      · refine rj 0 1 rfl ?_
        exact ih (.p3 c ({ r_ with i := IntKind.wrap .i64 (r_.i + 1) } : T52) t2_) _ hF K Ls iP0 hK _ _ io1 ⟨rfl, rfl, trivial⟩ hs
    · refine dfx 107 rfl c_21 ?_
      refine dn 11 rfl ?_
      refine dz ?_
      refine rn 0 rfl ?_
      refine cf rfl rfl ?_
      refine rj 0 1 rfl ?_
      exact ih (.p3 c ({ r_ with i := IntKind.wrap .i64 (r_.i + 1) } : T52) t2_) _ hF K Ls iP0 hK _ _ io1 ⟨rfl, rfl, trivial⟩ hs
  · refine dfx 95 rfl c_20 ?_
    refine dn 23 rfl ?_
    refine dz ?_
    refine rn 0 rfl ?_
    refine cf rfl rfl ?_
    refine rj 0 1 rfl ?_
    exact ih (.p3 c ({ r_ with i := IntKind.wrap .i64 (r_.i + 1) } : T52) t2_) _ hF K Ls iP0 hK _ _ io1 ⟨rfl, rfl, trivial⟩ hs
 | p3 c r_ t2_ =>
  dsimp only at hF
  intro K Ls iP0 hK tm st io1 hf hs
  refine en hf ?_
  refine rn 1 rfl ?_
  refine bs (f := AV.int .u8) ([c] : List Int) hs rfl rfl rfl rfl fun st b_25 hs => ?_
  obtain ⟨r_26, g_27, hF⟩ := bind_some hF
  refine df' (d12 (some ([c] : List Int)) _ g_27) (ds := [slV 1 (AV.int .u8) (some ([c] : List Int))]) (dsl_cons (dsw (es := 1) (f := AV.int .u8) (o := (some ([c] : List Int))) (id := b_25)) dsl_nil) ?_
  refine rn 1 rfl ?_
  refine W.o (bR (cs := c54 ({ set := r_26, c := c, one := true } : T54)) rfl rfl) ?_
  refine sr hs 2 rfl rfl rfl (cs' := c54 ({ set := r_26, c := c, one := true } : T54)) rfl rfl fun st hs => ?_
  refine rn 0 rfl ?_
  cases hF
  exact rS (rl_cellN rfl (hs.g 2 rfl) (LR.whole _ _) (c54_len _) rl0) (hK _ (hs.p 3 [1] rfl)) rfl
noncomputable def F38 (r_ : T52) : Option (T54 × T52) :=
 (if (decide (r_.i ≥ ((r_.s).length : Int))) = true then
  (F39 r_ ((r_.s).length : Int) >>= fun r_3 =>
   (some (r_3.1, r_3.2)))
 else
  (ix r_.s r_.i >>= fun b_5 =>
   (if ((b_5.toNat : Int) == 91) = true then
    (if (decide ((IntKind.wrap .i64 (r_.i + 1)) < ((r_.s).length : Int))) = true then
     (ix r_.s (IntKind.wrap .i64 (r_.i + 1)) >>= fun b_9 =>
      (if ((b_9.toNat : Int) == 58) = true then
       (G38 (.p1 r_ ({ set := (Arr.rep 4 0), c := 0, one := false } : T54)))
      else
       (ix r_.s (IntKind.wrap .i64 (r_.i + 1)) >>= fun b_12 =>
        (if ((b_12.toNat : Int) == 61) = true then
         (G38 (.p1 r_ ({ set := (Arr.rep 4 0), c := 0, one := false } : T54)))
        else
         (ix r_.s (IntKind.wrap .i64 (r_.i + 1)) >>= fun b_15 =>
          (if ((b_15.toNat : Int) == 46) = true then
           (G38 (.p1 r_ ({ set := (Arr.rep 4 0), c := 0, one := false } : T54)))
          else
           (G38 (.p2 (b_5.toNat : Int) r_ ({ set := (Arr.rep 4 0), c := 0, one := false } : T54)))))))))
    else
     (G38 (.p2 (b_5.toNat : Int) r_ ({ set := (Arr.rep 4 0), c := 0, one := false } : T54))))
   else
    (G38 (.p2 (b_5.toNat : Int) r_ ({ set := (Arr.rep 4 0), c := 0, one := false } : T54))))))
theorem d38 (r_ : T52) (r : T54 × T52) (hF : F38 r_ = some r) : ∀ (K : AV → Store → Prop) (Ls : List Asn) (iP0 : Nat), (∀ st, SH st (pt iP0 (.cells (c52 r.2)) :: Ls) → K (v54 r.1) st) → ∀ (st : Store), SH st (pt iP0 (.cells (c52 r_)) :: Ls) → XCall Try.prog noG 38 [.ptr iP0 0] st K := by
 unfold F38 at hF
 intro K Ls iP0 hK  st hs
 refine bS k38 rfl ?_
 refine rn 0 rfl ?_
 refine al hs (cs := c54 ({ set := (Arr.rep 4 0), c := 0, one := false } : T54)) rfl fun st b_1 hs => ?_
 refine rn 0 rfl ?_
 have h0 := hs
 refine dr0 ?_
 refine dn 1 rfl ?_
 refine de rfl (e_nilck rfl (h0.g 1 rfl)) ?_
 refine de rfl (e_faddr rfl (h0.g 1 rfl)) ?_
 refine de rfl (l1 rfl (h0.g 1 rfl) rfl) ?_
 refine dn 1 rfl ?_
 refine de rfl (e_nilck rfl (h0.g 1 rfl)) ?_
 refine de rfl (e_faddr rfl (h0.g 1 rfl)) ?_
 refine de rfl (l1 rfl (h0.g 1 rfl) rfl) ?_
 refine dn 2 rfl ?_
 refine dz ?_
 refine rn 0 rfl ?_
 refine ci hF rfl (fun c_2 hF => ?_) (fun c_2 hF => ?_)
 · refine rn 2 rfl ?_
   refine W.o (e_nilck rfl (hs.g 1 rfl)) ?_
   refine W.o (e_faddr rfl (hs.g 1 rfl)) ?_
   refine W.o (l1 rfl (hs.g 1 rfl) rfl) ?_
   obtain ⟨r_3, g_4, hF⟩ := bind_some hF
   refine rn 1 rfl ?_
   refine cl (ale rfl) (d39 r_ ((r_.s).length : Int) _ g_4 _ _ iP0 (fun st hs => ?_) _ (hs.p 2 [1, 0] rfl))
   refine sr hs 1 rfl rfl rfl (cs' := c54 r_3.1) rfl rfl fun st hs => ?_
   refine rn 0 rfl ?_
   cases hF
   exact rS (rl_cellN rfl (hs.g 1 rfl) (LR.whole _ _) (c54_len _) rl0) (hK _ (hs.p 2 [0] rfl)) rfl
 · refine rn 0 rfl ?_
   have h0 := hs
   refine dr0 ?_
   refine dn 1 rfl ?_
   refine de rfl (e_nilck rfl (h0.g 1 rfl)) ?_
   refine de rfl (e_faddr rfl (h0.g 1 rfl)) ?_
   refine de rfl (l1 rfl (h0.g 1 rfl) rfl) ?_
   refine dn 1 rfl ?_
   refine de rfl (e_nilck rfl (h0.g 1 rfl)) ?_
   refine de rfl (e_faddr rfl (h0.g 1 rfl)) ?_
   refine de rfl (l1 rfl (h0.g 1 rfl) rfl) ?_
   obtain ⟨b_5, g_6, hF⟩ := bind_some hF
   refine de rfl (e_ixS rfl rfl g_6) ?_
   refine dn 1 rfl ?_
   refine dz ?_
   refine rn 0 rfl ?_
   have h0 := hs
   refine dr0 ?_
   refine dn 3 rfl ?_
   refine bi hF (fun c_7 hF => ?_) (fun c_7 hF => ?_)
   · refine dfx 32 rfl c_7 ?_
     refine dn 1 rfl ?_
     refine don rfl rfl ?_
     refine de rfl (e_nilck rfl (h0.g 1 rfl)) ?_
     refine don rfl rfl ?_
     refine de rfl (e_faddr rfl (h0.g 1 rfl)) ?_
     refine don rfl rfl ?_
     refine de rfl (l1 rfl (h0.g 1 rfl) rfl) ?_
     refine dn 2 rfl ?_
     refine don rfl rfl ?_
     refine de rfl (e_nilck rfl (h0.g 1 rfl)) ?_
     refine don rfl rfl ?_
     refine de rfl (e_faddr rfl (h0.g 1 rfl)) ?_
     refine don rfl rfl ?_
     refine de rfl (l1 rfl (h0.g 1 rfl) rfl) ?_
     refine dn 4 rfl ?_
     refine bi hF (fun c_8 hF => ?_) (fun c_8 hF => ?_)
     · refine dfx 45 rfl c_8 ?_
       refine dn 1 rfl ?_
       refine don rfl rfl ?_
       refine de rfl (e_nilck rfl (h0.g 1 rfl)) ?_
       refine don rfl rfl ?_
       refine de rfl (e_faddr rfl (h0.g 1 rfl)) ?_
       refine don rfl rfl ?_
       refine de rfl (l1 rfl (h0.g 1 rfl) rfl) ?_
       refine dn 1 rfl ?_
       refine don rfl rfl ?_
       refine de rfl (e_nilck rfl (h0.g 1 rfl)) ?_
       refine don rfl rfl ?_
       refine de rfl (e_faddr rfl (h0.g 1 rfl)) ?_
       refine don rfl rfl ?_
       refine de rfl (l1 rfl (h0.g 1 rfl) rfl) ?_
       obtain ⟨b_9, g_10, hF⟩ := bind_some hF
       refine dn 1 rfl ?_
       refine don rfl rfl ?_
       refine de rfl (e_ixS rfl rfl g_10) ?_
       refine dn 2 rfl ?_
       refine bi hF (fun c_11 hF => ?_) (fun c_11 hF => ?_)
       · refine dfx 57 rfl c_11 ?_
         refine dn 26 rfl ?_
         refine dz ?_
         refine rn 0 rfl ?_
         refine ct rfl rfl ?_
         exact w38 (.p1 r_ ({ set := (Arr.rep 4 0), c := 0, one := false } : T54)) _ hF K Ls iP0 hK _ _ b_1 ⟨rfl, rfl, trivial⟩ (hs.p 2 [1, 0] rfl)
       · refine dfx 57 rfl c_11 ?_
         refine dn 1 rfl ?_
         refine don rfl rfl ?_
         refine de rfl (e_nilck rfl (h0.g 1 rfl)) ?_
         refine don rfl rfl ?_
         refine de rfl (e_faddr rfl (h0.g 1 rfl)) ?_
         refine don rfl rfl ?_
         refine de rfl (l1 rfl (h0.g 1 rfl) rfl) ?_
         refine dn 1 rfl ?_
         refine don rfl rfl ?_
         refine de rfl (e_nilck rfl (h0.g 1 rfl)) ?_
         refine don rfl rfl ?_
         refine de rfl (e_faddr rfl (h0.g 1 rfl)) ?_
         refine don rfl rfl ?_
         refine de rfl (l1 rfl (h0.g 1 rfl) rfl) ?_
         obtain ⟨b_12, g_13, hF⟩ := bind_some hF
         refine dn 1 rfl ?_
         refine don rfl rfl ?_
         refine de rfl (e_ixS rfl rfl g_13) ?_
         refine dn 3 rfl ?_
         refine bi hF (fun c_14 hF => ?_) (fun c_14 hF => ?_)
         · refine dfx 70 rfl c_14 ?_
           refine dn 13 rfl ?_
           refine dz ?_
           refine rn 0 rfl ?_
           refine ct rfl rfl ?_
           exact w38 (.p1 r_ ({ set := (Arr.rep 4 0), c := 0, one := false } : T54)) _ hF K Ls iP0 hK _ _ b_1 ⟨rfl, rfl, trivial⟩ (hs.p 2 [1, 0] rfl)
         · refine dfx 70 rfl c_14 ?_
           refine dn 1 rfl ?_
           refine don rfl rfl ?_
           refine de rfl (e_nilck rfl (h0.g 1 rfl)) ?_
           refine don rfl rfl ?_
           refine de rfl (e_faddr rfl (h0.g 1 rfl)) ?_
           refine don rfl rfl ?_
           refine de rfl (l1 rfl (h0.g 1 rfl) rfl) ?_
           refine dn 1 rfl ?_
           refine don rfl rfl ?_
           refine de rfl (e_nilck rfl (h0.g 1 rfl)) ?_
           refine don rfl rfl ?_
           refine de rfl (e_faddr rfl (h0.g 1 rfl)) ?_
           refine don rfl rfl ?_
           refine de rfl (l1 rfl (h0.g 1 rfl) rfl) ?_
           obtain ⟨b_15, g_16, hF⟩ := bind_some hF
           refine dn 1 rfl ?_
           refine don rfl rfl ?_
           refine de rfl (e_ixS rfl rfl g_16) ?_
           refine dn 3 rfl ?_
           refine dz ?_
           refine rn 0 rfl ?_
           refine ci hF rfl (fun c_17 hF => ?_) (fun c_17 hF => ?_)
           · exact w38 (.p1 r_ ({ set := (Arr.rep 4 0), c := 0, one := false } : T54)) _ hF K Ls iP0 hK _ _ b_1 ⟨rfl, rfl, trivial⟩ (hs.p 2 [1, 0] rfl)
           · refine rj 0 1 rfl ?_
             exact w38 (.p2 (b_5.toNat : Int) r_ ({ set := (Arr.rep 4 0), c := 0, one := false } : T54)) _ hF K Ls iP0 hK _ _ b_1 ⟨rfl, rfl, rfl, trivial⟩ (hs.p 2 [1, 0] rfl)
     · refine dfx 45 rfl c_8 ?_
       refine dn 38 rfl ?_
       refine dz ?_
       refine rn 0 rfl ?_
       refine cf rfl rfl ?_
       refine rj 0 1 rfl ?_
       exact w38 (.p2 (b_5.toNat : Int) r_ ({ set := (Arr.rep 4 0), c := 0, one := false } : T54)) _ hF K Ls iP0 hK _ _ b_1 ⟨rfl, rfl, rfl, trivial⟩ (hs.p 2 [1, 0] rfl)
   · refine dfx 32 rfl c_7 ?_
     refine dn 51 rfl ?_
     refine dz ?_
     refine rn 0 rfl ?_
     refine cf rfl rfl ?_
     refine rj 0 1 rfl ?_
     exact w38 (.p2 (b_5.toNat : Int) r_ ({ set := (Arr.rep 4 0), c := 0, one := false } : T54)) _ hF K Ls iP0 hK _ _ b_1 ⟨rfl, rfl, rfl, trivial⟩ (hs.p 2 [1, 0] rfl)
/-! ### 22: paddock/sets.Bracket -/
def C22_23 : ACode := .cond 50 .skip (.exit 0)
def O22_38o1 : List AOp := (q 82 (.nilck 81)).y 79 :: (q 83 (.faddr 1 82)).y 79 :: (q 84 (.load1 83)).y 79 :: (q 85 (.binI .add 84 (ki 1))).y 79 :: (q 86 (.ixS 80 85)).y 79 :: (q 87 (.binI .neq 86 (ku 93))).y 79 :: q 88 (.pick 79 87 (.c (.bool false))) :: []
def O22_38o0 : List AOp := q 58 (.faddr 5 10) :: q 59 (.load1 58) :: q 60 (.mv 59) :: (q 61 (.mv 6)).y 60 :: (q 62 (.nilck 61)).y 60 :: (q 63 (.faddr 1 62)).y 60 :: (q 64 (.load1 63)).y 60 :: (q 65 (.binI .add 64 (ki 1))).y 60 :: (q 66 (.mv 0)).y 60 :: (q 67 (.lenS 66)).y 60 :: (q 68 (.binI .lss 65 67)).y 60 :: q 69 (.pick 60 68 (.c (.bool false))) :: q 70 (.mv 69) :: (q 71 (.mv 0)).y 70 :: (q 72 (.mv 6)).y 70 :: (q 73 (.nilck 72)).y 70 :: (q 74 (.faddr 1 73)).y 70 :: (q 75 (.load1 74)).y 70 :: (q 76 (.ixS 71 75)).y 70 :: (q 77 (.binI .eql 76 (ku 45))).y 70 :: q 78 (.pick 70 77 (.c (.bool false))) :: q 79 (.mv 78) :: (q 80 (.mv 0)).y 79 :: (q 81 (.mv 6)).y 79 :: O22_38o1
def C22_50 : ACode := .ops [q 119 (.mv 6), q 120 (.mv 11), qc 121 39 [119, 120]]
def C22_52 : ACode := .ops [q 122 (.faddr 4 10), q 123 (.load1 122), q 124 (.faddr 4 12), q 125 (.load1 124), qc 126 20 [123, 125], q 127 (.faddr 0 10), q0 (.store 4 127 126)]
def C22_54 : ACode := .s (.s (.ops [q 128 (.mv 6), q 129 (.nilck 128), q 130 (.faddr 2 129), q 131 (.load1 130), q 132 (.binI .geq 131 (ki 0))]) (.cond 132 (.exit 0) .skip)) (.ops [q 133 (.loadN 4 8), q 134 (.faddr 0 10), q 135 (.loadN 4 134), qc 136 27 [133, 135], q0 (.store 4 8 136)])
def C22_61 : ACode := .ops [q 9 (.mv (.c (.bool false)))]
def C22_26 : ACode := .s (.block 1 (.s (.ops [q 51 (.mv 6), qc 52 38 [51], q 10 (.alloc [(.int .u64 0), (.int .u64 0), (.int .u64 0), (.int .u64 0), (.int .u8 0), (.bool false)]), q0 (.store 6 10 52)]) (.s (.s (.ops [q 53 (.mv 6), q 54 (.nilck 53), q 55 (.faddr 2 54), q 56 (.load1 55), q 57 (.binI .geq 56 (ki 0))]) (.cond 57 (.exit 0) .skip)) (.s (.s (.ops O22_38o0) (.cond 88 (.s (.ops [q 89 (.mv 6), q 90 (.nilck 89), q 91 (.faddr 1 90), q 92 (.load1 91), q 93 (.binI .add 92 (ki 1)), q 94 (.nilck 89), q 95 (.faddr 1 94), q0 (.store 1 95 93)]) (.s (.ops [q 96 (.mv 6), q 97 (.nilck 96), q 98 (.faddr 1 97), q 99 (.load1 98), q 11 (.mv 99)]) (.s (.ops [q 100 (.mv 6), qc 101 38 [100], q 12 (.alloc [(.int .u64 0), (.int .u64 0), (.int .u64 0), (.int .u64 0), (.int .u8 0), (.bool false)]), q0 (.store 6 12 101)]) (.s (.s (.ops [q 102 (.mv 6), q 103 (.nilck 102), q 104 (.faddr 2 103), q 105 (.load1 104), q 106 (.binI .lss 105 (ki 0)), q 107 (.mv 106), (q 108 (.faddr 5 12)).y 107, (q 109 (.load1 108)).y 107, (q 110 (.un .not 109)).y 107, (q 111 (.mv 110)).y 107, (q 112 (.faddr 4 12)).n 111, (q 113 (.load1 112)).n 111, (q 114 (.faddr 4 10)).n 111, (q 115 (.load1 114)).n 111, (q 116 (.binI .lss 113 115)).n 111, (q 117 (.pick 111 (.c (.bool true)) 116)).y 107, q 118 (.pick 107 117 (.c (.bool false)))]) (.cond 118 C22_50 .skip)) C22_52)))) .skip)) C22_54)))) C22_61
def C22_20 : ACode := .s (.s (.ops [q 32 (.mv 9), q 33 (.mv 32), (q 34 (.mv 6)).n 33, (q 35 (.nilck 34)).n 33, (q 36 (.faddr 1 35)).n 33, (q 37 (.load1 36)).n 33, (q 38 (.mv 0)).n 33, (q 39 (.lenS 38)).n 33, (q 40 (.binI .geq 37 39)).n 33, q 41 (.pick 33 (.c (.bool true)) 40), q 42 (.mv 41), (q 43 (.mv 0)).n 42, (q 44 (.mv 6)).n 42, (q 45 (.nilck 44)).n 42, (q 46 (.faddr 1 45)).n 42, (q 47 (.load1 46)).n 42, (q 48 (.ixS 43 47)).n 42, (q 49 (.binI .neq 48 (ku 93))).n 42, q 50 (.pick 42 (.c (.bool true)) 49)]) C22_23) C22_26
def C22_76 : ACode := .s (.draw [2] 0 0 [q 150 (.loadN 4 8), q 151 (.mv 6), q 152 (.nilck 151), q 153 (.faddr 1 152), q 154 (.load1 153), q 155 (.binI .add 154 (ki 1)), q0 (.store 4 2 150), q 3 (.mv 155), q 4 (.mv (ki 0)), q 5 (.mv (ki 0))] []) .ret
def C22_62 : ACode := .s (.s (.ops [q 137 (.mv 6), q 138 (.nilck 137), q 139 (.faddr 2 138), q 140 (.load1 139), q 141 (.binI .geq 140 (ki 0))]) (.cond 141 (.s (.draw [2] 0 0 [q 142 (.build [(.int .u64 0), (.int .u64 0), (.int .u64 0), (.int .u64 0)] []), q 143 (.mv 6), q 144 (.nilck 143), q 145 (.faddr 2 144), q 146 (.load1 145), q0 (.store 4 2 142), q 3 (.mv (ki 0)), q 4 (.mv (ki 70)), q 5 (.mv 146)] []) .ret) .skip)) (.s (.s (.ops [q 147 (.mv 7)]) (.cond 147 (.ops [q 148 (.loadN 4 8), qc 149 29 [148], q0 (.store 4 8 149)]) .skip)) C22_76)
def C22_13 : ACode := .s (.ops [q 8 (.alloc [(.int .u64 0), (.int .u64 0), (.int .u64 0), (.int .u64 0)])]) (.s (.s (.ops [q 9 (.mv (.c (.bool true)))]) (.block 0 (.loop C22_20))) C22_62)
def C22_7 : ACode := .s (.s (.ops [q 24 (.mv 7)]) (.cond 24 (.ops [q 25 (.mv 6), q 26 (.nilck 25), q 27 (.faddr 1 26), q 28 (.load1 27), q 29 (.binI .add 28 (ki 1)), q 30 (.nilck 25), q 31 (.faddr 1 30), q0 (.store 1 31 29)]) .skip)) C22_13
def C22_1 : ACode := .s (.ops [q 2 (.alloc [(.int .u64 0), (.int .u64 0), (.int .u64 0), (.int .u64 0)]), q 3 (.mv (ki 0)), q 4 (.mv (ki 0)), q 5 (.mv (ki 0))]) (.s (.ops [q 13 (.mv 0), q 14 (.build [(.str []), (.int .i64 0), (.int .i64 0)] [(0, (1, 13)), (2, (1, (ki (-1))))]), q 15 (.box 3 14), q 6 (.mv 15)]) (.s (.ops [q 16 (.mv 0), q 17 (.lenS 16), q 18 (.binI .gtr 17 (ki 0)), q 19 (.mv 18), (q 20 (.mv 0)).y 19, (q 21 (.ixS 20 (ki 0))).y 19, (q 22 (.binI .eql 21 (ku 94))).y 19, q 23 (.pick 19 22 (.c (.bool false))), q 7 (.mv 23)]) C22_7))
def R22 : List RA := [(.cellN 2 4), (.tmp 3), (.tmp 4), (.tmp 5)]
theorem k22 : compF Try.prog (muL []) 22 = some ⟨156, C22_1, R22⟩ := by kernel_rfl
noncomputable abbrev X22 (r : Arr 4 Int × Int × Int × Int) : Cx := cD Try.prog noG 156 R22 (AV.tup [v24 r.1, AV.int .i64 r.2.1, AV.int .i64 r.2.2.1, AV.int .i64 r.2.2.2])
inductive St22 where
 | p1 (s : Str) (not_ : Bool) (t2_ : Arr 4 Int) (r_ : T52)
 | p2 (s : Str) (not_ : Bool) (t2_ : Arr 4 Int) (r_ : T52)
 | p3 (s : Str) (not_ : Bool) (first : Bool) (t2_ : Arr 4 Int) (r_ : T52) (set : Arr 4 Int)
 | p4 (s : Str) (not_ : Bool) (t2_ : Arr 4 Int) (r_ : T52) (set : Arr 4 Int)
 | p5 (not_ : Bool) (t2_ : Arr 4 Int) (r_ : T52) (set : Arr 4 Int)
 | p6 (s : Str) (not_ : Bool) (at_ : Int) (t2_ : Arr 4 Int) (r_ : T52) (set : Arr 4 Int) (x_ : T54) (y : T54)
 | p7 (s : Str) (not_ : Bool) (t2_ : Arr 4 Int) (r_ : T52) (set : Arr 4 Int) (x_ : T54) (y : T54)
 | p8 (s : Str) (not_ : Bool) (t2_ : Arr 4 Int) (r_ : T52) (set : Arr 4 Int) (x_ : T54)
 | p9 (t2_ : Arr 4 Int) (r_ : T52) (set : Arr 4 Int)
noncomputable def G22 : St22 → Option (Arr 4 Int × Int × Int × Int)
 | .p1 s not_ t2_ r_ =>
  (if not_ = true then
   (G22 (.p2 s not_ t2_ ({ r_ with i := IntKind.wrap .i64 (r_.i + 1) } : T52)))
  else
   (G22 (.p2 s not_ t2_ r_)))
 | .p2 s not_ t2_ r_ =>
  (G22 (.p3 s not_ true t2_ r_ (Arr.rep 4 0)))
 | .p3 s not_ first t2_ r_ set =>
  (if first = true then
   (G22 (.p4 s not_ t2_ r_ set))
  else
   (if (decide (r_.i ≥ ((s).length : Int))) = true then
    (G22 (.p4 s not_ t2_ r_ set))
   else
    (ix s r_.i >>= fun b_10 =>
     (if ((b_10.toNat : Int) != 93) = true then
      (G22 (.p4 s not_ t2_ r_ set))
     else
      (G22 (.p5 not_ t2_ r_ set))))))
 | .p4 s not_ t2_ r_ set =>
  (F38 r_ >>= fun r_13 =>
   (if (decide (r_13.2.bad ≥ 0)) = true then
    (G22 (.p5 not_ t2_ r_13.2 set))
   else
    (if r_13.1.one = true then
     (if (decide ((IntKind.wrap .i64 (r_13.2.i + 1)) < ((s).length : Int))) = true then
      (ix s r_13.2.i >>= fun b_19 =>
       (if ((b_19.toNat : Int) == 45) = true then
        (ix s (IntKind.wrap .i64 (r_13.2.i + 1)) >>= fun b_22 =>
         (if ((b_22.toNat : Int) != 93) = true then
          (F38 ({ r_13.2 with i := IntKind.wrap .i64 (r_13.2.i + 1) } : T52) >>= fun r_25 =>
           (if (decide (r_25.2.bad < 0)) = true then
            (if (!r_25.1.one) = true then
             (G22 (.p6 s not_ (IntKind.wrap .i64 (r_13.2.i + 1)) t2_ r_25.2 set r_13.1 r_25.1))
            else
             (if (decide (r_25.1.c < r_13.1.c)) = true then
              (G22 (.p6 s not_ (IntKind.wrap .i64 (r_13.2.i + 1)) t2_ r_25.2 set r_13.1 r_25.1))
             else
              (G22 (.p7 s not_ t2_ r_25.2 set r_13.1 r_25.1))))
           else
            (G22 (.p7 s not_ t2_ r_25.2 set r_13.1 r_25.1))))
         else
          (G22 (.p8 s not_ t2_ r_13.2 set r_13.1))))
       else
        (G22 (.p8 s not_ t2_ r_13.2 set r_13.1))))
     else
      (G22 (.p8 s not_ t2_ r_13.2 set r_13.1)))
    else
     (G22 (.p8 s not_ t2_ r_13.2 set r_13.1)))))
 | .p5 not_ t2_ r_ set =>
  (if (decide (r_.bad ≥ 0)) = true then
   (some ((Arr.rep 4 0), 0, 70, r_.bad))
  else
   (if not_ = true then
    (F29 set >>= fun r_34 =>
     (G22 (.p9 t2_ r_ r_34)))
   else
    (G22 (.p9 t2_ r_ set))))
 | .p6 s not_ at_ t2_ r_ set x_ y =>
  (F39 r_ at_ >>= fun r_36 =>
   (G22 (.p7 s not_ t2_ r_36.2 set x_ y)))
 | .p7 s not_ t2_ r_ set x_ y =>
  (F20 x_.c y.c >>= fun r_38 =>
   (G22 (.p8 s not_ t2_ r_ set ({ x_ with set := r_38 } : T54))))
 | .p8 s not_ t2_ r_ set x_ =>
  (if (decide (r_.bad ≥ 0)) = true then
   (G22 (.p5 not_ t2_ r_ set))
  else
   (F27 set x_.set >>= fun r_41 =>
    (G22 (.p3 s not_ false t2_ r_ r_41))))
 | .p9 t2_ r_ set =>
  (some (set, IntKind.wrap .i64 (r_.i + 1), 0, 0))
 partial_fixpoint
def M22 (x : St22) (r : Arr 4 Int × Int × Int × Int) : Prop := match x with
 | .p1 s not_ t2_ r_ => ∀ (tm : Fr) (st : Store) (io0 : Nat) (io1 : Nat), Frm tm [(0, AV.str s), (2, .ptr io0 0), (6, .ptr io1 0), (7, AV.bool not_)] → SH st [pt io0 (.cells (c24 t2_)), pt io1 (.cells (c52 r_))] → W (X22 r) [.code C22_7] tm st
 | .p2 s not_ t2_ r_ => ∀ (tm : Fr) (st : Store) (io0 : Nat) (io1 : Nat), Frm tm [(0, AV.str s), (2, .ptr io0 0), (6, .ptr io1 0), (7, AV.bool not_)] → SH st [pt io0 (.cells (c24 t2_)), pt io1 (.cells (c52 r_))] → W (X22 r) [.code C22_13] tm st
 | .p3 s not_ first t2_ r_ set => ∀ (tm : Fr) (st : Store) (io0 : Nat) (io1 : Nat) (io2 : Nat), Frm tm [(0, AV.str s), (2, .ptr io0 0), (6, .ptr io1 0), (7, AV.bool not_), (8, .ptr io2 0), (9, AV.bool first)] → SH st [pt io0 (.cells (c24 t2_)), pt io1 (.cells (c52 r_)), pt io2 (.cells (c24 set))] → W (X22 r) [.lp C22_20, .blk 0, .code C22_62] tm st
 | .p4 s not_ t2_ r_ set => ∀ (tm : Fr) (st : Store) (io0 : Nat) (io1 : Nat) (io2 : Nat), Frm tm [(0, AV.str s), (2, .ptr io0 0), (6, .ptr io1 0), (7, AV.bool not_), (8, .ptr io2 0)] → SH st [pt io0 (.cells (c24 t2_)), pt io1 (.cells (c52 r_)), pt io2 (.cells (c24 set))] → W (X22 r) [.code C22_26, .lp C22_20, .blk 0, .code C22_62] tm st
 | .p5 not_ t2_ r_ set => ∀ (tm : Fr) (st : Store) (io0 : Nat) (io1 : Nat) (io2 : Nat), Frm tm [(2, .ptr io0 0), (6, .ptr io1 0), (7, AV.bool not_), (8, .ptr io2 0)] → SH st [pt io0 (.cells (c24 t2_)), pt io1 (.cells (c52 r_)), pt io2 (.cells (c24 set))] → W (X22 r) [.code C22_62] tm st
 | .p6 s not_ at_ t2_ r_ set x_ y => ∀ (tm : Fr) (st : Store) (io0 : Nat) (io1 : Nat) (io2 : Nat) (io3 : Nat) (io4 : Nat), Frm tm [(0, AV.str s), (2, .ptr io0 0), (6, .ptr io1 0), (7, AV.bool not_), (8, .ptr io2 0), (10, .ptr io3 0), (11, AV.int .i64 at_), (12, .ptr io4 0)] → SH st [pt io0 (.cells (c24 t2_)), pt io1 (.cells (c52 r_)), pt io2 (.cells (c24 set)), pt io3 (.cells (c54 x_)), pt io4 (.cells (c54 y))] → W (X22 r) [.code C22_50, .code C22_52, .code C22_54, .blk 1, .code C22_61, .lp C22_20, .blk 0, .code C22_62] tm st
 | .p7 s not_ t2_ r_ set x_ y => ∀ (tm : Fr) (st : Store) (io0 : Nat) (io1 : Nat) (io2 : Nat) (io3 : Nat) (io4 : Nat), Frm tm [(0, AV.str s), (2, .ptr io0 0), (6, .ptr io1 0), (7, AV.bool not_), (8, .ptr io2 0), (10, .ptr io3 0), (12, .ptr io4 0)] → SH st [pt io0 (.cells (c24 t2_)), pt io1 (.cells (c52 r_)), pt io2 (.cells (c24 set)), pt io3 (.cells (c54 x_)), pt io4 (.cells (c54 y))] → W (X22 r) [.code C22_52, .code C22_54, .blk 1, .code C22_61, .lp C22_20, .blk 0, .code C22_62] tm st
 | .p8 s not_ t2_ r_ set x_ => ∀ (tm : Fr) (st : Store) (io0 : Nat) (io1 : Nat) (io2 : Nat) (io3 : Nat), Frm tm [(0, AV.str s), (2, .ptr io0 0), (6, .ptr io1 0), (7, AV.bool not_), (8, .ptr io2 0), (10, .ptr io3 0)] → SH st [pt io0 (.cells (c24 t2_)), pt io1 (.cells (c52 r_)), pt io2 (.cells (c24 set)), pt io3 (.cells (c54 x_))] → W (X22 r) [.code C22_54, .blk 1, .code C22_61, .lp C22_20, .blk 0, .code C22_62] tm st
 | .p9 t2_ r_ set => ∀ (tm : Fr) (st : Store) (io0 : Nat) (io1 : Nat) (io2 : Nat), Frm tm [(2, .ptr io0 0), (6, .ptr io1 0), (8, .ptr io2 0)] → SH st [pt io0 (.cells (c24 t2_)), pt io1 (.cells (c52 r_)), pt io2 (.cells (c24 set))] → W (X22 r) [.code C22_76] tm st
theorem w22 : ∀ (x : St22) (r : Arr 4 Int × Int × Int × Int), G22 x = some r → M22 x r := by
 refine G22.partial_correctness M22 ?_
 intro g ih x r hF
 cases x with
 | p1 s not_ t2_ r_ =>
  dsimp only at hF
  intro tm st io0 io1 hf hs
  refine en hf ?_
  refine rn 1 rfl ?_
  refine ci hF rfl (fun c_6 hF => ?_) (fun c_6 hF => ?_)
  · refine rn 1 rfl ?_
    refine W.o (e_nilck rfl (hs.g 1 rfl)) ?_
    refine W.o (e_faddr rfl (hs.g 1 rfl)) ?_
    refine W.o (l1 rfl (hs.g 1 rfl) rfl) ?_
    refine rn 1 rfl ?_
    refine W.o (e_nilck rfl (hs.g 1 rfl)) ?_
    refine W.o (e_faddr rfl (hs.g 1 rfl)) ?_
    refine sr hs 1 rfl rfl rfl (cs' := c52 ({ r_ with i := IntKind.wrap .i64 (r_.i + 1) } : T52)) rfl rfl fun st hs => ?_
    refine rj 0 1 rfl ?_
    exact ih (.p2 s not_ t2_ ({ r_ with i := IntKind.wrap .i64 (r_.i + 1) } : T52)) _ hF _ _ io0 io1 ⟨rfl, rfl, rfl, rfl, trivial⟩ hs
  · refine rj 0 1 rfl ?_
    exact ih (.p2 s not_ t2_ r_) _ hF _ _ io0 io1 ⟨rfl, rfl, rfl, rfl, trivial⟩ hs
 | p2 s not_ t2_ r_ =>
  dsimp only at hF
  intro tm st io0 io1 hf hs
  refine en hf ?_
  refine rn 0 rfl ?_
  refine al hs (cs := c24 (Arr.rep 4 0)) rfl fun st b_7 hs => ?_
  refine rn 1 rfl ?_
  exact ih (.p3 s not_ true t2_ r_ (Arr.rep 4 0)) _ hF _ _ io0 io1 b_7 ⟨rfl, rfl, rfl, rfl, rfl, rfl, trivial⟩ (hs.p 3 [1, 1, 0] rfl)
 | p3 s not_ first t2_ r_ set =>
  dsimp only at hF
  intro tm st io0 io1 io2 hf hs
  refine en hf ?_
  refine lp ?_
  refine rn 2 rfl ?_
  refine bi hF (fun c_8 hF => ?_) (fun c_8 hF => ?_)
  · refine wfx 33 rfl c_8 ?_
    refine rn 17 rfl ?_
    refine ct rfl rfl ?_
    refine rj 0 1 rfl ?_
    exact ih (.p4 s not_ t2_ r_ set) _ hF _ _ io0 io1 io2 ⟨rfl, rfl, rfl, rfl, rfl, trivial⟩ hs
  · refine wfx 33 rfl c_8 ?_
    refine rn 1 rfl ?_
    refine W.on rfl rfl ?_
    refine W.o (e_nilck rfl (hs.g 1 rfl)) ?_
    refine W.on rfl rfl ?_
    refine W.o (e_faddr rfl (hs.g 1 rfl)) ?_
    refine W.on rfl rfl ?_
    refine W.o (l1 rfl (hs.g 1 rfl) rfl) ?_
    refine rn 5 rfl ?_
    refine bi hF (fun c_9 hF => ?_) (fun c_9 hF => ?_)
    · refine wfx 42 rfl c_9 ?_
      refine rn 8 rfl ?_
      refine ct rfl rfl ?_
      refine rj 0 1 rfl ?_
      exact ih (.p4 s not_ t2_ r_ set) _ hF _ _ io0 io1 io2 ⟨rfl, rfl, rfl, rfl, rfl, trivial⟩ hs
    · refine wfx 42 rfl c_9 ?_
      refine rn 2 rfl ?_
      refine W.on rfl rfl ?_
      refine W.o (e_nilck rfl (hs.g 1 rfl)) ?_
      refine W.on rfl rfl ?_
      refine W.o (e_faddr rfl (hs.g 1 rfl)) ?_
      refine W.on rfl rfl ?_
      refine W.o (l1 rfl (hs.g 1 rfl) rfl) ?_
      obtain ⟨b_10, g_11, hF⟩ := bind_some hF
      refine W.on rfl rfl ?_
      refine W.o (e_ixS rfl rfl g_11) ?_
      refine rn 2 rfl ?_
      refine ci hF rfl (fun c_12 hF => ?_) (fun c_12 hF => ?_)
      · refine rj 0 1 rfl ?_
        exact ih (.p4 s not_ t2_ r_ set) _ hF _ _ io0 io1 io2 ⟨rfl, rfl, rfl, rfl, rfl, trivial⟩ hs
      · refine rj 0 1 rfl ?_
        exact ih (.p5 not_ t2_ r_ set) _ hF _ _ io0 io1 io2 ⟨rfl, rfl, rfl, rfl, trivial⟩ hs
 | p4 s not_ t2_ r_ set =>
  dsimp only at hF
  intro tm st io0 io1 io2 hf hs
  refine en hf ?_
  obtain ⟨r_13, g_14, hF⟩ := bind_some hF
  refine rn 1 rfl ?_
  refine cl (ale rfl) (d38 r_ _ g_14 _ _ io1 (fun st hs => ?_) _ (hs.p 3 [1, 0, 0] rfl))
  refine al hs (cs := c54 ({ set := (Arr.rep 4 0), c := 0, one := false } : T54)) rfl fun st b_15 hs => ?_
  refine sr hs 0 rfl rfl rfl (cs' := c54 r_13.1) rfl rfl fun st hs => ?_
  refine rn 1 rfl ?_
  refine W.o (e_nilck rfl (hs.g 1 rfl)) ?_
  refine W.o (e_faddr rfl (hs.g 1 rfl)) ?_
  refine W.o (l1 rfl (hs.g 1 rfl) rfl) ?_
  refine rn 1 rfl ?_
  refine ci hF rfl (fun c_16 hF => ?_) (fun c_16 hF => ?_)
  · refine rj 0 1 rfl ?_
    exact ih (.p5 not_ t2_ r_13.2 set) _ hF _ _ io0 io1 io2 ⟨rfl, rfl, rfl, rfl, trivial⟩ (hs.p 4 [2, 1, 1] rfl)
  · refine rn 0 rfl ?_
    refine W.o (e_faddr rfl (hs.g 0 rfl)) ?_
    refine W.o (l1 rfl (hs.g 0 rfl) rfl) ?_
    refine rn 1 rfl ?_
    refine bi hF (fun c_17 hF => ?_) (fun c_17 hF => ?_)
    · refine wfx 60 rfl c_17 ?_
      refine rn 1 rfl ?_
      refine W.on rfl rfl ?_
      refine W.o (e_nilck rfl (hs.g 1 rfl)) ?_
      refine W.on rfl rfl ?_
      refine W.o (e_faddr rfl (hs.g 1 rfl)) ?_
      refine W.on rfl rfl ?_
      refine W.o (l1 rfl (hs.g 1 rfl) rfl) ?_
      refine rn 6 rfl ?_
      refine bi hF (fun c_18 hF => ?_) (fun c_18 hF => ?_)
      · refine wfx 70 rfl c_18 ?_
        refine rn 2 rfl ?_
        refine W.on rfl rfl ?_
        refine W.o (e_nilck rfl (hs.g 1 rfl)) ?_
        refine W.on rfl rfl ?_
        refine W.o (e_faddr rfl (hs.g 1 rfl)) ?_
        refine W.on rfl rfl ?_
        refine W.o (l1 rfl (hs.g 1 rfl) rfl) ?_
        obtain ⟨b_19, g_20, hF⟩ := bind_some hF
        refine W.on rfl rfl ?_
        refine W.o (e_ixS rfl rfl g_20) ?_
        refine rn 3 rfl ?_
        refine bi hF (fun c_21 hF => ?_) (fun c_21 hF => ?_)
        · refine wfx 79 rfl c_21 ?_
          refine rn 2 rfl ?_
          refine W.on rfl rfl ?_
          refine W.o (e_nilck rfl (hs.g 1 rfl)) ?_
          refine W.on rfl rfl ?_
          refine W.o (e_faddr rfl (hs.g 1 rfl)) ?_
          refine W.on rfl rfl ?_
          refine W.o (l1 rfl (hs.g 1 rfl) rfl) ?_
          obtain ⟨b_22, g_23, hF⟩ := bind_some hF
          refine rn 1 rfl ?_
          refine W.on rfl rfl ?_
          refine W.o (e_ixS rfl rfl g_23) ?_
          refine rn 2 rfl ?_
          refine ci hF rfl (fun c_24 hF => ?_) (fun c_24 hF => ?_)
          · refine rn 1 rfl ?_
            refine W.o (e_nilck rfl (hs.g 1 rfl)) ?_
            refine W.o (e_faddr rfl (hs.g 1 rfl)) ?_
            refine W.o (l1 rfl (hs.g 1 rfl) rfl) ?_
            refine rn 1 rfl ?_
            refine W.o (e_nilck rfl (hs.g 1 rfl)) ?_
            refine W.o (e_faddr rfl (hs.g 1 rfl)) ?_
            refine sr hs 1 rfl rfl rfl (cs' := c52 ({ r_13.2 with i := IntKind.wrap .i64 (r_13.2.i + 1) } : T52)) rfl rfl fun st hs => ?_
            refine rn 1 rfl ?_
            refine W.o (e_nilck rfl (hs.g 1 rfl)) ?_
            refine W.o (e_faddr rfl (hs.g 1 rfl)) ?_
            refine W.o (l1 rfl (hs.g 1 rfl) rfl) ?_
            obtain ⟨r_25, g_26, hF⟩ := bind_some hF
            refine rn 2 rfl ?_
            refine cl (ale rfl) (d38 ({ r_13.2 with i := IntKind.wrap .i64 (r_13.2.i + 1) } : T52) _ g_26 _ _ io1 (fun st hs => ?_) _ (hs.p 4 [1, 0, 0, 0] rfl))
            refine al hs (cs := c54 ({ set := (Arr.rep 4 0), c := 0, one := false } : T54)) rfl fun st b_27 hs => ?_
            refine sr hs 0 rfl rfl rfl (cs' := c54 r_25.1) rfl rfl fun st hs => ?_
            refine rn 1 rfl ?_
            refine W.o (e_nilck rfl (hs.g 1 rfl)) ?_
            refine W.o (e_faddr rfl (hs.g 1 rfl)) ?_
            refine W.o (l1 rfl (hs.g 1 rfl) rfl) ?_
            refine rn 2 rfl ?_
            refine bi hF (fun c_28 hF => ?_) (fun c_28 hF => ?_)
            · refine wfx 107 rfl c_28 ?_
              refine W.on rfl rfl ?_
              refine W.o (e_faddr rfl (hs.g 0 rfl)) ?_
              refine W.on rfl rfl ?_
              refine W.o (l1 rfl (hs.g 0 rfl) rfl) ?_
              refine rn 2 rfl ?_
              refine bi hF (fun c_29 hF => ?_) (fun c_29 hF => ?_)
              · refine wfx 111 rfl c_29 ?_
                refine rn 7 rfl ?_
                refine ct rfl rfl ?_
                exact ih (.p6 s not_ (IntKind.wrap .i64 (r_13.2.i + 1)) t2_ r_25.2 set r_13.1 r_25.1) _ hF _ _ io0 io1 io2 b_15 b_27 ⟨rfl, rfl, rfl, rfl, rfl, rfl, rfl, rfl, trivial⟩ (hs.p 5 [3, 1, 2, 1, 0] rfl)
              · refine wfx 111 rfl c_29 ?_
                refine W.on rfl rfl ?_
                refine W.o (e_faddr rfl (hs.g 0 rfl)) ?_
                refine W.on rfl rfl ?_
                refine W.o (l1 rfl (hs.g 0 rfl) rfl) ?_
                refine W.on rfl rfl ?_
                refine W.o (e_faddr rfl (hs.g 2 rfl)) ?_
                refine W.on rfl rfl ?_
                refine W.o (l1 rfl (hs.g 2 rfl) rfl) ?_
                refine rn 3 rfl ?_
                refine ci hF rfl (fun c_30 hF => ?_) (fun c_30 hF => ?_)
                · exact ih (.p6 s not_ (IntKind.wrap .i64 (r_13.2.i + 1)) t2_ r_25.2 set r_13.1 r_25.1) _ hF _ _ io0 io1 io2 b_15 b_27 ⟨rfl, rfl, rfl, rfl, rfl, rfl, rfl, rfl, trivial⟩ (hs.p 5 [3, 1, 2, 1, 0] rfl)
                · refine rj 0 1 rfl ?_
                  exact ih (.p7 s not_ t2_ r_25.2 set r_13.1 r_25.1) _ hF _ _ io0 io1 io2 b_15 b_27 ⟨rfl, rfl, rfl, rfl, rfl, rfl, rfl, trivial⟩ (hs.p 5 [3, 1, 2, 1, 0] rfl)
            · refine wfx 107 rfl c_28 ?_
              refine rn 11 rfl ?_
              refine cf rfl rfl ?_
              refine rj 0 1 rfl ?_
              exact ih (.p7 s not_ t2_ r_25.2 set r_13.1 r_25.1) _ hF _ _ io0 io1 io2 b_15 b_27 ⟨rfl, rfl, rfl, rfl, rfl, rfl, rfl, trivial⟩ (hs.p 5 [3, 1, 2, 1, 0] rfl)
          · refine rj 0 1 rfl ?_
            exact ih (.p8 s not_ t2_ r_13.2 set r_13.1) _ hF _ _ io0 io1 io2 b_15 ⟨rfl, rfl, rfl, rfl, rfl, rfl, trivial⟩ (hs.p 4 [2, 1, 1, 0] rfl)
        · refine wfx 79 rfl c_21 ?_
          refine rn 9 rfl ?_
          refine cf rfl rfl ?_
          refine rj 0 1 rfl ?_
          exact ih (.p8 s not_ t2_ r_13.2 set r_13.1) _ hF _ _ io0 io1 io2 b_15 ⟨rfl, rfl, rfl, rfl, rfl, rfl, trivial⟩ (hs.p 4 [2, 1, 1, 0] rfl)
      · refine wfx 70 rfl c_18 ?_
        refine rn 18 rfl ?_
        refine cf rfl rfl ?_
        refine rj 0 1 rfl ?_
        exact ih (.p8 s not_ t2_ r_13.2 set r_13.1) _ hF _ _ io0 io1 io2 b_15 ⟨rfl, rfl, rfl, rfl, rfl, rfl, trivial⟩ (hs.p 4 [2, 1, 1, 0] rfl)
    · refine wfx 60 rfl c_17 ?_
      refine rn 28 rfl ?_
      refine cf rfl rfl ?_
      refine rj 0 1 rfl ?_
      exact ih (.p8 s not_ t2_ r_13.2 set r_13.1) _ hF _ _ io0 io1 io2 b_15 ⟨rfl, rfl, rfl, rfl, rfl, rfl, trivial⟩ (hs.p 4 [2, 1, 1, 0] rfl)
 | p5 not_ t2_ r_ set =>
  dsimp only at hF
  intro tm st io0 io1 io2 hf hs
  refine en hf ?_
  refine rn 1 rfl ?_
  refine W.o (e_nilck rfl (hs.g 1 rfl)) ?_
  refine W.o (e_faddr rfl (hs.g 1 rfl)) ?_
  refine W.o (l1 rfl (hs.g 1 rfl) rfl) ?_
  refine rn 1 rfl ?_
  refine ci hF rfl (fun c_31 hF => ?_) (fun c_31 hF => ?_)
  · refine rn 0 rfl ?_
    refine dr1 hs 0 rfl rfl rfl fun s_32 st h0 hs => ?_
    refine de rfl (e_build (z := [(.int .u64 0), (.int .u64 0), (.int .u64 0), (.int .u64 0)]) (cs := c24 (Arr.rep 4 0)) pk_nil (show fillA (c24 (Arr.rep 4 0)) _ = _ from (fl_nil _))) ?_
    refine dn 1 rfl ?_
    refine de rfl (e_nilck rfl (h0.g 1 rfl)) ?_
    refine de rfl (e_faddr rfl (h0.g 1 rfl)) ?_
    refine de rfl (l1 rfl (h0.g 1 rfl) rfl) ?_
    refine dsr' h0 0 hs 0 rfl rfl rfl rfl (cs' := c24 (Arr.rep 4 0)) rfl rfl fun st hs => ?_
    refine dn 3 rfl ?_
    refine dz ?_
    refine rn 0 rfl ?_
    cases hF
    exact rD (rl_cellN rfl (hs.g 0 rfl) (LR.whole _ _) (c24_len _) (rlt (rlt (rlt rl0)))) rfl
  · refine rn 1 rfl ?_
    refine ci hF rfl (fun c_33 hF => ?_) (fun c_33 hF => ?_)
    · refine rn 0 rfl ?_
      refine W.o (lN (s := c24 set) rfl (hs.g 2 rfl) rfl rfl) ?_
      obtain ⟨r_34, g_35, hF⟩ := bind_some hF
      refine df (d29 set _ g_35) rfl ?_
      refine sr hs 2 rfl rfl rfl (cs' := c24 r_34) rfl rfl fun st hs => ?_
      refine rj 0 1 rfl ?_
      exact ih (.p9 t2_ r_ r_34) _ hF _ _ io0 io1 io2 ⟨rfl, rfl, rfl, trivial⟩ hs
    · refine rj 0 1 rfl ?_
      exact ih (.p9 t2_ r_ set) _ hF _ _ io0 io1 io2 ⟨rfl, rfl, rfl, trivial⟩ hs
 | p6 s not_ at_ t2_ r_ set x_ y =>
  dsimp only at hF
  intro tm st io0 io1 io2 io3 io4 hf hs
  refine en hf ?_
  obtain ⟨r_36, g_37, hF⟩ := bind_some hF
  refine rn 2 rfl ?_
  refine cl (ale rfl) (d39 r_ at_ _ g_37 _ _ io1 (fun st hs => ?_) _ (hs.p 5 [1, 0, 0, 0, 0] rfl))
  refine rj 0 1 rfl ?_
  exact ih (.p7 s not_ t2_ r_36.2 set x_ y) _ hF _ _ io0 io1 io2 io3 io4 ⟨rfl, rfl, rfl, rfl, rfl, rfl, rfl, trivial⟩ (hs.p 5 [1, 0, 0, 0, 0] rfl)
 | p7 s not_ t2_ r_ set x_ y =>
  dsimp only at hF
  intro tm st io0 io1 io2 io3 io4 hf hs
  refine en hf ?_
  refine rn 0 rfl ?_
  refine W.o (e_faddr rfl (hs.g 3 rfl)) ?_
  refine W.o (l1 rfl (hs.g 3 rfl) rfl) ?_
  refine W.o (e_faddr rfl (hs.g 4 rfl)) ?_
  refine W.o (l1 rfl (hs.g 4 rfl) rfl) ?_
  obtain ⟨r_38, g_39, hF⟩ := bind_some hF
  refine df (d20 x_.c y.c _ g_39) rfl ?_
  refine W.o (e_faddr rfl (hs.g 3 rfl)) ?_
  refine sr hs 3 rfl rfl rfl (cs' := c54 ({ x_ with set := r_38 } : T54)) rfl rfl fun st hs => ?_
  refine rj 0 1 rfl ?_
  exact ih (.p8 s not_ t2_ r_ set ({ x_ with set := r_38 } : T54)) _ hF _ _ io0 io1 io2 io3 ⟨rfl, rfl, rfl, rfl, rfl, rfl, trivial⟩ (hs.p 5 [0, 0, 0, 0] rfl)
 | p8 s not_ t2_ r_ set x_ =>
  dsimp only at hF
  intro tm st io0 io1 io2 io3 hf hs
  refine en hf ?_
  refine rn 1 rfl ?_
  refine W.o (e_nilck rfl (hs.g 1 rfl)) ?_
  refine W.o (e_faddr rfl (hs.g 1 rfl)) ?_
  refine W.o (l1 rfl (hs.g 1 rfl) rfl) ?_
  refine rn 1 rfl ?_
  refine ci hF rfl (fun c_40 hF => ?_) (fun c_40 hF => ?_)
  · refine rj 0 1 rfl ?_
    exact ih (.p5 not_ t2_ r_ set) _ hF _ _ io0 io1 io2 ⟨rfl, rfl, rfl, rfl, trivial⟩ (hs.p 4 [0, 0, 0] rfl)
  · refine rn 0 rfl ?_
    refine W.o (lN (s := c24 set) rfl (hs.g 2 rfl) rfl rfl) ?_
    refine W.o (e_faddr rfl (hs.g 3 rfl)) ?_
    refine W.o (lN (s := c24 x_.set) rfl (hs.g 3 rfl) rfl rfl) ?_
    obtain ⟨r_41, g_42, hF⟩ := bind_some hF
    refine df (d27 set x_.set _ g_42) rfl ?_
    refine sr hs 2 rfl rfl rfl (cs' := c24 r_41) rfl rfl fun st hs => ?_
    refine rn 1 rfl ?_
    exact ih (.p3 s not_ false t2_ r_ r_41) _ hF _ _ io0 io1 io2 ⟨rfl, rfl, rfl, rfl, rfl, rfl, trivial⟩ (hs.p 4 [0, 0, 0] rfl)
 | p9 t2_ r_ set =>
  dsimp only at hF
  intro tm st io0 io1 io2 hf hs
  refine en hf ?_
  refine rn 0 rfl ?_
  refine dr1 hs 0 rfl rfl rfl fun s_43 st h0 hs => ?_
  refine de rfl (lN (s := c24 set) rfl (h0.g 2 rfl) rfl rfl) ?_
  refine dn 1 rfl ?_
  refine de rfl (e_nilck rfl (h0.g 1 rfl)) ?_
  refine de rfl (e_faddr rfl (h0.g 1 rfl)) ?_
  refine de rfl (l1 rfl (h0.g 1 rfl) rfl) ?_
  refine dn 1 rfl ?_
  refine dsr' h0 0 hs 0 rfl rfl rfl rfl (cs' := c24 set) rfl rfl fun st hs => ?_
  refine dn 3 rfl ?_
  refine dz ?_
  refine rn 0 rfl ?_
  cases hF
  exact rD (rl_cellN rfl (hs.g 0 rfl) (LR.whole _ _) (c24_len _) (rlt (rlt (rlt rl0)))) rfl
noncomputable def F22 (s : Str) : Option (Arr 4 Int × Int × Int × Int) :=
 (if (decide (((s).length : Int) > 0)) = true then
  (ix s 0 >>= fun b_4 =>
   (G22 (.p1 s ((b_4.toNat : Int) == 94) (Arr.rep 4 0) ({ s := s, i := 0, bad := (-1) } : T52))))
 else
  (G22 (.p1 s false (Arr.rep 4 0) ({ s := s, i := 0, bad := (-1) } : T52))))
theorem d22 (s : Str) (r : Arr 4 Int × Int × Int × Int) (hF : F22 s = some r) : DFun Try.prog noG 22 [AV.str s] (AV.tup [v24 r.1, AV.int .i64 r.2.1, AV.int .i64 r.2.2.1, AV.int .i64 r.2.2.2]) := by
 unfold F22 at hF
 refine bD k22 rfl ?_
 have hs : SH [] [] := SH.nil
 generalize ([] : Store) = st at hs ⊢
 refine rn 0 rfl ?_
 refine al hs (cs := c24 (Arr.rep 4 0)) rfl fun st b_1 hs => ?_
 refine rn 4 rfl ?_
 refine W.o (bR (cs := c52 ({ s := s, i := 0, bad := (-1) } : T52)) rfl rfl) ?_
 refine bx hs (cs := c52 ({ s := s, i := 0, bad := (-1) } : T52)) rfl rfl fun st b_2 hs => ?_
 refine rn 5 rfl ?_
 refine bi hF (fun c_3 hF => ?_) (fun c_3 hF => ?_)
 · refine wfx 19 rfl c_3 ?_
   obtain ⟨b_4, g_5, hF⟩ := bind_some hF
   refine rn 1 rfl ?_
   refine W.on rfl rfl ?_
   refine W.o (e_ixS rfl rfl g_5) ?_
   refine rj 3 1 rfl ?_
   exact w22 (.p1 s ((b_4.toNat : Int) == 94) (Arr.rep 4 0) ({ s := s, i := 0, bad := (-1) } : T52)) _ hF _ _ b_1 b_2 ⟨rfl, rfl, rfl, rfl, trivial⟩ (hs.p 2 [1, 0] rfl)
 · refine wfx 19 rfl c_3 ?_
   refine rj 5 1 rfl ?_
   exact w22 (.p1 s false (Arr.rep 4 0) ({ s := s, i := 0, bad := (-1) } : T52)) _ hF _ _ b_1 b_2 ⟨rfl, rfl, rfl, rfl, trivial⟩ (hs.p 2 [1, 0] rfl)
/-! ### 11: paddock/paddocklaw07.lives -/
def O11_8o1 : List AOp := q 45 (.mv 44) :: (q 46 (.mv 8)).y 45 :: (q 47 (.binI .eql 46 (ki 2))).y 45 :: q 48 (.pick 45 47 (.c (.bool false))) :: q 49 (.mv 48) :: (q 50 (.bslice 1 3 false [(.int .u8 0)] [(0, (1, (ku 99))), (1, (1, (ku 97))), (2, (1, (ku 98)))] false)).y 49 :: (q 51 (.cvB 50)).y 49 :: (qc 52 12 [51]).y 49 :: (qc 53 24 [52]).y 49 :: (q 54 (.binS .eql 53 (.c (.str [97, 45, 99, 93])))).y 49 :: q 55 (.pick 49 54 (.c (.bool false))) :: q 0 (.mv 55) :: []
def O11_8o0 : List AOp := q 21 (.mv 3) :: q 22 (.binI .eql 21 (ki 0)) :: q 23 (.mv 22) :: (q 24 (.mv 2)).y 23 :: (q 25 (.binI .eql 24 (ki 5))).y 23 :: q 26 (.pick 23 25 (.c (.bool false))) :: q 27 (.mv 26) :: (q 28 (.loadN 4 1)).y 27 :: (qc 29 17 [28, (ku 53)]).y 27 :: (q 30 (.un .not 29)).y 27 :: q 31 (.pick 27 30 (.c (.bool false))) :: q 32 (.mv 31) :: (q 33 (.loadN 4 1)).y 32 :: (qc 34 17 [33, (ku 97)]).y 32 :: q 35 (.pick 32 34 (.c (.bool false))) :: q 36 (.mv 35) :: (q 37 (.loadN 4 1)).y 36 :: (qc 38 19 [37]).y 36 :: (q 39 (.binI .eql 38 (ki 246))).y 36 :: q 40 (.pick 36 39 (.c (.bool false))) :: q 41 (.mv 40) :: (q 42 (.mv 7)).y 41 :: (q 43 (.binI .eql 42 (ki 70))).y 41 :: q 44 (.pick 41 43 (.c (.bool false))) :: O11_8o1
def C11_1 : ACode := .s (.ops [q 0 (.mv (.c (.bool false)))]) (.s (.ops [qc 10 22 [(.c (.str [94, 48, 45, 57, 93, 120]))], q 9 (.mv 10), q 11 (.extract 9 0), q 12 (.extract 9 1), q 13 (.extract 9 2), q 14 (.extract 9 3), q 1 (.alloc [(.int .u64 0), (.int .u64 0), (.int .u64 0), (.int .u64 0)]), q0 (.store 4 1 11), q 2 (.mv 12), q 3 (.mv 13), q 4 (.mv 14)]) (.s (.ops [qc 16 22 [(.c (.str [99, 45, 97, 93]))], q 15 (.mv 16), q 17 (.extract 15 0), q 18 (.extract 15 1), q 19 (.extract 15 2), q 20 (.extract 15 3), q 5 (.alloc [(.int .u64 0), (.int .u64 0), (.int .u64 0), (.int .u64 0)]), q0 (.store 4 5 17), q 6 (.mv 18), q 7 (.mv 19), q 8 (.mv 20)]) (.s (.ops O11_8o0) .ret)))
def R11 : List RA := [(.tmp 0)]
theorem k11 : compF Try.prog (muL []) 11 = some ⟨56, C11_1, R11⟩ := by kernel_rfl
noncomputable abbrev X11 (r : Bool) : Cx := cD Try.prog noG 56 R11 (AV.bool r)
noncomputable def F11  : Option Bool :=
 (F22 ([94, 48, 45, 57, 93, 120] : Str) >>= fun r_1 =>
  (F22 ([99, 45, 97, 93] : Str) >>= fun r_4 =>
   (if (r_1.2.2.1 == 0) = true then
    (if (r_1.2.1 == 5) = true then
     (F17 r_1.1 53 >>= fun r_9 =>
      (if (!r_9) = true then
       (F17 r_1.1 97 >>= fun r_12 =>
        (if r_12 = true then
         (F19 r_1.1 >>= fun r_15 =>
          (if (r_15 == 246) = true then
           (if (r_4.2.2.1 == 70) = true then
            (if (r_4.2.2.2 == 2) = true then
             (F12 (some ([99, 97, 98] : List Int)) >>= fun r_21 =>
              (F24 r_21 >>= fun r_23 =>
               (some (r_23 == ([97, 45, 99, 93] : Str)))))
            else
             (some false))
           else
            (some false))
          else
           (some false)))
        else
         (some false)))
      else
       (some false)))
    else
     (some false))
   else
    (some false))))
theorem d11  (r : Bool) (hF : F11  = some r) : DFun Try.prog noG 11 [] (AV.bool r) := by
 unfold F11 at hF
 refine bD k11 rfl ?_
 have hs : SH [] [] := SH.nil
 generalize ([] : Store) = st at hs ⊢
 obtain ⟨r_1, g_2, hF⟩ := bind_some hF
 refine rn 1 rfl ?_
 refine df (d22 ([94, 48, 45, 57, 93, 120] : Str) _ g_2) rfl ?_
 refine rn 5 rfl ?_
 refine al hs (cs := c24 (Arr.rep 4 0)) rfl fun st b_3 hs => ?_
 refine sr hs 0 rfl rfl rfl (cs' := c24 r_1.1) rfl rfl fun st hs => ?_
 obtain ⟨r_4, g_5, hF⟩ := bind_some hF
 refine rn 3 rfl ?_
 refine df (d22 ([99, 45, 97, 93] : Str) _ g_5) rfl ?_
 refine rn 5 rfl ?_
 refine al hs (cs := c24 (Arr.rep 4 0)) rfl fun st b_6 hs => ?_
 refine sr hs 0 rfl rfl rfl (cs' := c24 r_4.1) rfl rfl fun st hs => ?_
 refine rn 6 rfl ?_
 refine bi hF (fun c_7 hF => ?_) (fun c_7 hF => ?_)
 · refine wfx 23 rfl c_7 ?_
   refine rn 4 rfl ?_
   refine bi hF (fun c_8 hF => ?_) (fun c_8 hF => ?_)
   · refine wfx 27 rfl c_8 ?_
     refine W.on rfl rfl ?_
     refine W.o (lN (s := c24 r_1.1) rfl (hs.g 1 rfl) rfl rfl) ?_
     obtain ⟨r_9, g_10, hF⟩ := bind_some hF
     refine W.on rfl rfl ?_
     refine df (d17 r_1.1 53 _ g_10) rfl ?_
     refine rn 3 rfl ?_
     refine bi hF (fun c_11 hF => ?_) (fun c_11 hF => ?_)
     · refine wfx 32 rfl c_11 ?_
       refine W.on rfl rfl ?_
       refine W.o (lN (s := c24 r_1.1) rfl (hs.g 1 rfl) rfl rfl) ?_
       obtain ⟨r_12, g_13, hF⟩ := bind_some hF
       refine W.on rfl rfl ?_
       refine df (d17 r_1.1 97 _ g_13) rfl ?_
       refine rn 2 rfl ?_
       refine bi hF (fun c_14 hF => ?_) (fun c_14 hF => ?_)
       · refine wfx 36 rfl c_14 ?_
         refine W.on rfl rfl ?_
         refine W.o (lN (s := c24 r_1.1) rfl (hs.g 1 rfl) rfl rfl) ?_
         obtain ⟨r_15, g_16, hF⟩ := bind_some hF
         refine W.on rfl rfl ?_
         refine df (d19 r_1.1 _ g_16) rfl ?_
         refine rn 3 rfl ?_
         refine bi hF (fun c_17 hF => ?_) (fun c_17 hF => ?_)
         · refine wfx 41 rfl c_17 ?_
           refine rn 4 rfl ?_
           refine bi hF (fun c_18 hF => ?_) (fun c_18 hF => ?_)
           · refine wfx 45 rfl c_18 ?_
             refine rn 4 rfl ?_
             refine bi hF (fun c_19 hF => ?_) (fun c_19 hF => ?_)
             · refine wfx 49 rfl c_19 ?_
               refine W.on rfl rfl ?_
               refine bs (f := AV.int .u8) ([99, 97, 98] : List Int) hs rfl rfl rfl rfl fun st b_20 hs => ?_
               refine W.on rfl rfl ?_
               refine cb hs 0 rfl rfl ?_
               obtain ⟨r_21, g_22, hF⟩ := bind_some hF
               refine W.on rfl rfl ?_
               refine df' (d12 (some ([99, 97, 98] : List Int)) _ g_22) (ds := [slV 1 (AV.int .u8) (some ([99, 97, 98] : List Int))]) (dsl_cons (dsw (es := 1) (f := AV.int .u8) (o := (some ([99, 97, 98] : List Int))) (id := b_20)) dsl_nil) ?_
               obtain ⟨r_23, g_24, hF⟩ := bind_some hF
               refine W.on rfl rfl ?_
               refine df (d24 r_21 _ g_24) rfl ?_
               refine rn 3 rfl ?_
               cases hF
               exact rD (rlt rl0) rfl
             · refine wfx 49 rfl c_19 ?_
               refine rn 7 rfl ?_
               cases hF
               exact rD (rlt rl0) rfl
           · refine wfx 45 rfl c_18 ?_
             refine rn 11 rfl ?_
             cases hF
             exact rD (rlt rl0) rfl
         · refine wfx 41 rfl c_17 ?_
           refine rn 15 rfl ?_
           cases hF
           exact rD (rlt rl0) rfl
       · refine wfx 36 rfl c_14 ?_
         refine rn 20 rfl ?_
         cases hF
         exact rD (rlt rl0) rfl
     · refine wfx 32 rfl c_11 ?_
       refine rn 24 rfl ?_
       cases hF
       exact rD (rlt rl0) rfl
   · refine wfx 27 rfl c_8 ?_
     refine rn 29 rfl ?_
     cases hF
     exact rD (rlt rl0) rfl
 · refine wfx 23 rfl c_7 ?_
   refine rn 33 rfl ?_
   cases hF
   exact rD (rlt rl0) rfl
end Go.Proofs.Ytfjdegohjnejkaa
