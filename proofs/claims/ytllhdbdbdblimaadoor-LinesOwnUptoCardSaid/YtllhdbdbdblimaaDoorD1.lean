/-
  Functions of the program's as plain functions.
-/
import Derived.Test.YtllhdbdbdblimaaDoorD0
set_option linter.unusedVariables false
set_option maxRecDepth 4000
set_option maxHeartbeats 4000000
namespace Go.Proofs.YtllhdbdbdblimaaDoor
open Go AW
attribute [local irreducible] W WD SH XS XLoop DFun XCall
/-! ### 43: paddock/lines.one -/
def C43_13 : ACode := .s (.ops [q 33 (.mv 1), q 34 (.mv 1), q 6 (.mv (ku 0)), q 7 (.mv 33), q 8 (.mv 34)]) .ret
def C43_17 : ACode := .s (.ops [q 35 (.mv 9), q 36 (.mv 1), q 37 (.binI .add 36 (ki 1)), q 6 (.mv 35), q 7 (.mv 37), q 8 (.mv (ki (-1)))]) .ret
def C43_37 : ACode := .s (.ops [q 58 (.mv 9), q 59 (.mv 1), q 60 (.binI .add 59 (ki 1)), q 6 (.mv 58), q 7 (.mv 60), q 8 (.mv (ki (-1)))]) .ret
def C43_46 : ACode := .s (.ops [q 63 (.binI .lss 62 (ki 14))]) (.s (.cond 63 .skip (.exit 0)) (.s (.block 1 (.s (.ops [q 64 (.mv 62), q 65 (.ixA1 14 1 61 62), q 10 (.mv 64), q 11 (.mv 65)]) (.s (.ops [q 66 (.mv 11), q 67 (.binI .neq 66 (ku 0)), q 68 (.mv 67), (q 69 (.mv 11)).y 68, (q 70 (.mv 9)).y 68, (q 71 (.binI .eql 69 70)).y 68, q 72 (.pick 68 71 (.c (.bool false)))]) (.cond 72 (.s (.ops [q 73 (.mv 10), q 74 (.cvI .u8 73), q 75 (.mv 1), q 76 (.binI .add 75 (ki 1)), q 6 (.mv 74), q 7 (.mv 76), q 8 (.mv (ki (-1)))]) .ret) .skip)))) (.ops [q 77 (.binI .add 62 (ki 1)), q 62 (.mv 77)])))
def C43_95 : ACode := .s (.ops [q 106 (.mv 1), q 107 (.mv 13), q 108 (.binI .add 106 107), q 109 (.mv 1), q 110 (.mv 13), q 111 (.binI .add 109 110), q 6 (.mv (ku 0)), q 7 (.mv 108), q 8 (.mv 111)]) .ret
def C43_103 : ACode := .cond 119 (.s (.ops [q 120 (.mv 1), q 121 (.mv 13), q 122 (.binI .add 120 121), q 123 (.mv 1), q 124 (.mv 13), q 125 (.binI .add 123 124), q 6 (.mv (ku 0)), q 7 (.mv 122), q 8 (.mv 125)]) .ret) .skip
def C43_99 : ACode := .s (.ops [q 112 (.mv 12), q 113 (.binI .mul (ki 8) 112), q 114 (.mv 14), q 115 (.binI .add 113 114), q 12 (.mv 115)]) (.s (.ops [q 116 (.mv 12), q 117 (.mv 13), qc 118 56 [116, 117], q 119 (.un .not 118)]) C43_103)
def C43_108 : ACode := .ops [q 126 (.binI .add 78 (ki 1)), q 78 (.mv 126)]
def C43_71 : ACode := .s (.ops [q 79 (.binI .lss 78 (ki 3))]) (.s (.cond 79 .skip (.exit 2)) (.s (.block 3 (.s (.ops [q 80 (.mv 78), q 13 (.mv 80)]) (.s (.s (.ops [q 81 (.mv 1), q 82 (.mv 13), q 83 (.binI .add 81 82), q 84 (.mv 0), q 85 (.lenS 84), q 86 (.binI .eql 83 85)]) (.cond 86 (.s (.ops [q 87 (.mv 1), q 88 (.mv 13), q 89 (.binI .add 87 88), q 90 (.mv 1), q 91 (.mv 13), q 92 (.binI .add 90 91), q 6 (.mv (ku 0)), q 7 (.mv 89), q 8 (.mv 92)]) .ret) .skip)) (.s (.ops [q 93 (.mv 0), q 94 (.mv 1), q 95 (.mv 13), q 96 (.binI .add 94 95), q 97 (.ixS 93 96), q 98 (.cvI .i64 97), q 99 (.binI .sub 98 (ki 48)), q 14 (.mv 99)]) (.s (.s (.ops [q 100 (.mv 14), q 101 (.binI .lss 100 (ki 0)), q 102 (.mv 101), (q 103 (.mv 14)).n 102, (q 104 (.binI .gtr 103 (ki 7))).n 102, q 105 (.pick 102 (.c (.bool true)) 104)]) (.cond 105 C43_95 .skip)) C43_99))))) C43_108))
def C43_109 : ACode := .s (.ops [q 127 (.mv 12), q 128 (.cvI .u8 127), q 129 (.mv 1), q 130 (.binI .add 129 (ki 3)), q 6 (.mv 128), q 7 (.mv 130), q 8 (.mv (ki (-1)))]) .ret
def C43_64 : ACode := .s (.ops [q 12 (.mv (ki 0))]) (.s (.s (.ops [q 78 (.mv (ki 0))]) (.block 2 (.loop C43_71))) C43_109)
def C43_41 : ACode := .s (.s (.ops [q 61 (.loadN 14 (.c (.gptr 1 0))), q 62 (.mv (ki 0))]) (.block 0 (.loop C43_46))) C43_64
def C43_21 : ACode := .s (.ops [q 38 (.mv 1), q 39 (.binI .add 38 (ki 1)), q 1 (.mv 39)]) (.s (.s (.ops [q 40 (.mv 1), q 41 (.mv 0), q 42 (.lenS 41), q 43 (.binI .eql 40 42)]) (.cond 43 (.s (.ops [q 44 (.mv 1), q 45 (.mv 1), q 6 (.mv (ku 0)), q 7 (.mv 44), q 8 (.mv 45)]) .ret) .skip)) (.s (.ops [q 46 (.mv 0), q 47 (.mv 1), q 48 (.ixS 46 47), q 9 (.mv 48)]) (.s (.s (.ops [q 49 (.mv 9), q 50 (.binI .eql 49 (ku 92)), q 51 (.mv 50), (q 52 (.mv 2)).n 51, (q 53 (.mv 52)).n 51, (q 54 (.mv 9)).y 53, (q 55 (.binI .eql 54 (ku 34))).y 53, (q 56 (.pick 53 55 (.c (.bool false)))).n 51, q 57 (.pick 51 (.c (.bool true)) 56)]) (.cond 57 C43_37 .skip)) C43_41)))
def C43_1 : ACode := .s (.ops [q 6 (.mv (ku 0)), q 7 (.mv (ki 0)), q 8 (.mv (ki 0))]) (.s (.ops [q 15 (.mv 0), q 16 (.mv 1), q 17 (.ixS 15 16), q 9 (.mv 17)]) (.s (.s (.ops [q 18 (.mv 9), q 19 (.binI .neq 18 (ku 92))]) (.cond 19 (.s (.s (.ops [q 20 (.mv 9), q 21 (.binI .lss 20 (ku 32)), q 22 (.mv 21), (q 23 (.mv 9)).n 22, (q 24 (.binI .geq 23 (ku 127))).n 22, q 25 (.pick 22 (.c (.bool true)) 24), q 26 (.mv 25), (q 27 (.mv 2)).n 26, (q 28 (.mv 27)).n 26, (q 29 (.mv 9)).y 28, (q 30 (.binI .eql 29 (ku 34))).y 28, (q 31 (.pick 28 30 (.c (.bool false)))).n 26, q 32 (.pick 26 (.c (.bool true)) 31)]) (.cond 32 C43_13 .skip)) C43_17) .skip)) C43_21))
def R43 : List RA := [(.tmp 6), (.tmp 7), (.tmp 8)]
theorem k43 : compF Tryd.prog (muL []) 43 = some ⟨131, C43_1, R43⟩ := by kernel_rfl
noncomputable abbrev X43 (r : Int × Int × Int) : Cx := cD Tryd.prog gE 131 R43 (AV.tup [AV.int .u8 r.1, AV.int .i64 r.2.1, AV.int .i64 r.2.2])
inductive St43 where
 | p1 (i : Int)
 | p2 (i : Int) (c : Int)
 | p3 (i : Int) (c : Int)
 | p4 (s : Str) (i : Int) (c : Int)
 | p5 (s : Str) (i : Int) (c : Int) (t61_ : Arr 14 Int) (t62_ : Int)
 | p6 (s : Str) (i : Int) (n : Int) (t78_ : Int)
 | p7 (i : Int) (k : Int)
noncomputable def G43 : St43 → Option (Int × Int × Int)
 | .p1 i =>
  (some (0, i, i))
 | .p2 i c =>
  (some (c, IntKind.wrap .i64 (i + 1), (-1)))
 | .p3 i c =>
  (some (c, IntKind.wrap .i64 (i + 1), (-1)))
 | .p4 s i c =>
  (G43 (.p5 s i c g1 0))
 | .p5 s i c t61_ t62_ =>
  (if (decide (t62_ < 14)) = true then
   (ix t61_.l t62_ >>= fun v_15 =>
    (if (v_15 != 0) = true then
     (if (v_15 == c) = true then
      (some (IntKind.wrap .u8 t62_, IntKind.wrap .i64 (i + 1), (-1)))
     else
      (G43 (.p5 s i c t61_ (IntKind.wrap .i64 (t62_ + 1)))))
    else
     (G43 (.p5 s i c t61_ (IntKind.wrap .i64 (t62_ + 1))))))
  else
   (G43 (.p6 s i 0 0)))
 | .p6 s i n t78_ =>
  (if (decide (t78_ < 3)) = true then
   (if ((IntKind.wrap .i64 (i + t78_)) == ((s).length : Int)) = true then
    (some (0, IntKind.wrap .i64 (i + t78_), IntKind.wrap .i64 (i + t78_)))
   else
    (ix s (IntKind.wrap .i64 (i + t78_)) >>= fun b_21 =>
     (if (decide ((IntKind.wrap .i64 ((IntKind.wrap .i64 (b_21.toNat : Int)) - 48)) < 0)) = true then
      (G43 (.p7 i t78_))
     else
      (if (decide ((IntKind.wrap .i64 ((IntKind.wrap .i64 (b_21.toNat : Int)) - 48)) > 7)) = true then
       (G43 (.p7 i t78_))
      else
       (F56 (IntKind.wrap .i64 ((IntKind.wrap .i64 (8 * n)) + (IntKind.wrap .i64 ((IntKind.wrap .i64 (b_21.toNat : Int)) - 48)))) t78_ >>= fun r_25 =>
        (if (!r_25) = true then
         (some (0, IntKind.wrap .i64 (i + t78_), IntKind.wrap .i64 (i + t78_)))
        else
         (G43 (.p6 s i (IntKind.wrap .i64 ((IntKind.wrap .i64 (8 * n)) + (IntKind.wrap .i64 ((IntKind.wrap .i64 (b_21.toNat : Int)) - 48)))) (IntKind.wrap .i64 (t78_ + 1))))))))))
  else
   (some (IntKind.wrap .u8 n, IntKind.wrap .i64 (i + 3), (-1))))
 | .p7 i k =>
  (some (0, IntKind.wrap .i64 (i + k), IntKind.wrap .i64 (i + k)))
 partial_fixpoint
def M43 (x : St43) (r : Int × Int × Int) : Prop := match x with
 | .p1 i => ∀ (tm : Fr) (st : Store), Frm tm [(1, AV.int .i64 i)] → SH st [] → W (X43 r) [.code C43_13, .code C43_17, .code C43_21] tm st
 | .p2 i c => ∀ (tm : Fr) (st : Store), Frm tm [(1, AV.int .i64 i), (9, AV.int .u8 c)] → SH st [] → W (X43 r) [.code C43_17, .code C43_21] tm st
 | .p3 i c => ∀ (tm : Fr) (st : Store), Frm tm [(1, AV.int .i64 i), (9, AV.int .u8 c)] → SH st [] → W (X43 r) [.code C43_37, .code C43_41] tm st
 | .p4 s i c => ∀ (tm : Fr) (st : Store), Frm tm [(0, AV.str s), (1, AV.int .i64 i), (9, AV.int .u8 c)] → SH st [] → W (X43 r) [.code C43_41] tm st
 | .p5 s i c t61_ t62_ => ∀ (tm : Fr) (st : Store), Frm tm [(0, AV.str s), (1, AV.int .i64 i), (9, AV.int .u8 c), (61, v87 t61_), (62, AV.int .i64 t62_)] → SH st [] → W (X43 r) [.lp C43_46, .blk 0, .code C43_64] tm st
 | .p6 s i n t78_ => ∀ (tm : Fr) (st : Store), Frm tm [(0, AV.str s), (1, AV.int .i64 i), (12, AV.int .i64 n), (78, AV.int .i64 t78_)] → SH st [] → W (X43 r) [.lp C43_71, .blk 2, .code C43_109] tm st
 | .p7 i k => ∀ (tm : Fr) (st : Store), Frm tm [(1, AV.int .i64 i), (13, AV.int .i64 k)] → SH st [] → W (X43 r) [.code C43_95, .code C43_99, .blk 3, .code C43_108, .lp C43_71, .blk 2, .code C43_109] tm st
theorem w43 : ∀ (x : St43) (r : Int × Int × Int), G43 x = some r → M43 x r := by
 refine G43.partial_correctness M43 ?_
 intro g ih x r hF
 cases x with
 | p1 i =>
  dsimp only at hF
  intro tm st hf hs
  refine en hf ?_
  refine rn 5 rfl ?_
  cases hF
  exact rD (rlt (rlt (rlt rl0))) rfl
 | p2 i c =>
  dsimp only at hF
  intro tm st hf hs
  refine en hf ?_
  refine rn 6 rfl ?_
  cases hF
  exact rD (rlt (rlt (rlt rl0))) rfl
 | p3 i c =>
  dsimp only at hF
  intro tm st hf hs
  refine en hf ?_
  refine rn 6 rfl ?_
  cases hF
  exact rD (rlt (rlt (rlt rl0))) rfl
 | p4 s i c =>
  dsimp only at hF
  intro tm st hf hs
  refine en hf ?_
  refine rn 0 rfl ?_
  refine W.o (e_loadNG rfl (rfl : gE 1 = some (c87 g1)) (LR.whole _ _) (c87_len _)) ?_
  refine rn 1 rfl ?_
  exact ih (.p5 s i c g1 0) _ hF _ _ ⟨rfl, rfl, rfl, rfl, rfl, trivial⟩ hs
 | p5 s i c t61_ t62_ =>
  dsimp only at hF
  intro tm st hf hs
  refine en hf ?_
  refine lp ?_
  refine rn 1 rfl ?_
  refine ci hF rfl (fun c_14 hF => ?_) (fun c_14 hF => ?_)
  · obtain ⟨v_15, g_16, hF⟩ := bind_some hF
    refine rn 1 rfl ?_
    refine W.o (e_ixA1 rfl rfl (ix_lt g_16) (lrF_get (cI_len .u8) g_16)) ?_
    refine rn 5 rfl ?_
    refine bi hF (fun c_17 hF => ?_) (fun c_17 hF => ?_)
    · refine wfx 68 rfl c_17 ?_
      refine rn 4 rfl ?_
      refine ci hF rfl (fun c_18 hF => ?_) (fun c_18 hF => ?_)
      · refine rn 7 rfl ?_
        cases hF
        exact rD (rlt (rlt (rlt rl0))) rfl
      · refine rn 2 rfl ?_
        exact ih (.p5 s i c t61_ (IntKind.wrap .i64 (t62_ + 1))) _ hF _ _ ⟨rfl, rfl, rfl, rfl, rfl, trivial⟩ hs
    · refine wfx 68 rfl c_17 ?_
      refine rn 4 rfl ?_
      refine cf rfl rfl ?_
      refine rn 2 rfl ?_
      exact ih (.p5 s i c t61_ (IntKind.wrap .i64 (t62_ + 1))) _ hF _ _ ⟨rfl, rfl, rfl, rfl, rfl, trivial⟩ hs
  · refine rn 2 rfl ?_
    exact ih (.p6 s i 0 0) _ hF _ _ ⟨rfl, rfl, rfl, rfl, trivial⟩ hs
 | p6 s i n t78_ =>
  dsimp only at hF
  intro tm st hf hs
  refine en hf ?_
  refine lp ?_
  refine rn 1 rfl ?_
  refine ci hF rfl (fun c_19 hF => ?_) (fun c_19 hF => ?_)
  · refine rn 8 rfl ?_
    refine ci hF rfl (fun c_20 hF => ?_) (fun c_20 hF => ?_)
    · refine rn 9 rfl ?_
      cases hF
      exact rD (rlt (rlt (rlt rl0))) rfl
    · obtain ⟨b_21, g_22, hF⟩ := bind_some hF
      refine rn 4 rfl ?_
      refine W.o (e_ixS rfl rfl g_22) ?_
      refine rn 6 rfl ?_
      refine bi hF (fun c_23 hF => ?_) (fun c_23 hF => ?_)
      · refine wfx 102 rfl c_23 ?_
        refine rn 3 rfl ?_
        refine ct rfl rfl ?_
        exact ih (.p7 i t78_) _ hF _ _ ⟨rfl, rfl, trivial⟩ hs
      · refine wfx 102 rfl c_23 ?_
        refine rn 3 rfl ?_
        refine ci hF rfl (fun c_24 hF => ?_) (fun c_24 hF => ?_)
        · exact ih (.p7 i t78_) _ hF _ _ ⟨rfl, rfl, trivial⟩ hs
        · obtain ⟨r_25, g_26, hF⟩ := bind_some hF
          refine rn 7 rfl ?_
          refine df (d56 (IntKind.wrap .i64 ((IntKind.wrap .i64 (8 * n)) + (IntKind.wrap .i64 ((IntKind.wrap .i64 (b_21.toNat : Int)) - 48)))) t78_ _ g_26) rfl ?_
          refine rn 1 rfl ?_
          refine ci hF rfl (fun c_27 hF => ?_) (fun c_27 hF => ?_)
          · refine rn 9 rfl ?_
            cases hF
            exact rD (rlt (rlt (rlt rl0))) rfl
          · refine rn 2 rfl ?_
            exact ih (.p6 s i (IntKind.wrap .i64 ((IntKind.wrap .i64 (8 * n)) + (IntKind.wrap .i64 ((IntKind.wrap .i64 (b_21.toNat : Int)) - 48)))) (IntKind.wrap .i64 (t78_ + 1))) _ hF _ _ ⟨rfl, rfl, rfl, rfl, trivial⟩ hs
  · refine rn 7 rfl ?_
    cases hF
    exact rD (rlt (rlt (rlt rl0))) rfl
 | p7 i k =>
  dsimp only at hF
  intro tm st hf hs
  refine en hf ?_
  refine rn 9 rfl ?_
  cases hF
  exact rD (rlt (rlt (rlt rl0))) rfl
noncomputable def F43 (s : Str) (i : Int) (quoted : Bool) : Option (Int × Int × Int) :=
 (ix s i >>= fun b_1 =>
  (if ((b_1.toNat : Int) != 92) = true then
   (if (decide ((b_1.toNat : Int) < 32)) = true then
    (G43 (.p1 i))
   else
    (if (decide ((b_1.toNat : Int) ≥ 127)) = true then
     (G43 (.p1 i))
    else
     (if quoted = true then
      (if ((b_1.toNat : Int) == 34) = true then
       (G43 (.p1 i))
      else
       (G43 (.p2 i (b_1.toNat : Int))))
     else
      (G43 (.p2 i (b_1.toNat : Int))))))
  else
   (if ((IntKind.wrap .i64 (i + 1)) == ((s).length : Int)) = true then
    (some (0, IntKind.wrap .i64 (i + 1), IntKind.wrap .i64 (i + 1)))
   else
    (ix s (IntKind.wrap .i64 (i + 1)) >>= fun b_9 =>
     (if ((b_9.toNat : Int) == 92) = true then
      (G43 (.p3 (IntKind.wrap .i64 (i + 1)) (b_9.toNat : Int)))
     else
      (if quoted = true then
       (if ((b_9.toNat : Int) == 34) = true then
        (G43 (.p3 (IntKind.wrap .i64 (i + 1)) (b_9.toNat : Int)))
       else
        (G43 (.p4 s (IntKind.wrap .i64 (i + 1)) (b_9.toNat : Int))))
      else
       (G43 (.p4 s (IntKind.wrap .i64 (i + 1)) (b_9.toNat : Int)))))))))
theorem d43 (s : Str) (i : Int) (quoted : Bool) (r : Int × Int × Int) (hF : F43 s i quoted = some r) : DFun Tryd.prog gE 43 [AV.str s, AV.int .i64 i, AV.bool quoted] (AV.tup [AV.int .u8 r.1, AV.int .i64 r.2.1, AV.int .i64 r.2.2]) := by
 unfold F43 at hF
 refine bD k43 rfl ?_
 have hs : SH [] [] := SH.nil
 generalize ([] : Store) = st at hs ⊢
 obtain ⟨b_1, g_2, hF⟩ := bind_some hF
 refine rn 5 rfl ?_
 refine W.o (e_ixS rfl rfl g_2) ?_
 refine rn 3 rfl ?_
 refine ci hF rfl (fun c_3 hF => ?_) (fun c_3 hF => ?_)
 · refine rn 3 rfl ?_
   refine bi hF (fun c_4 hF => ?_) (fun c_4 hF => ?_)
   · refine wfx 22 rfl c_4 ?_
     refine rn 10 rfl ?_
     refine ct rfl rfl ?_
     exact w43 (.p1 i) _ hF _ _ ⟨rfl, trivial⟩ hs
   · refine wfx 22 rfl c_4 ?_
     refine rn 4 rfl ?_
     refine bi hF (fun c_5 hF => ?_) (fun c_5 hF => ?_)
     · refine wfx 26 rfl c_5 ?_
       refine rn 6 rfl ?_
       refine ct rfl rfl ?_
       exact w43 (.p1 i) _ hF _ _ ⟨rfl, trivial⟩ hs
     · refine wfx 26 rfl c_5 ?_
       refine rn 2 rfl ?_
       refine bi hF (fun c_6 hF => ?_) (fun c_6 hF => ?_)
       · refine wfx 28 rfl c_6 ?_
         refine rn 4 rfl ?_
         refine ci hF rfl (fun c_7 hF => ?_) (fun c_7 hF => ?_)
         · exact w43 (.p1 i) _ hF _ _ ⟨rfl, trivial⟩ hs
         · refine rj 0 1 rfl ?_
           exact w43 (.p2 i (b_1.toNat : Int)) _ hF _ _ ⟨rfl, rfl, trivial⟩ hs
       · refine wfx 28 rfl c_6 ?_
         refine rn 4 rfl ?_
         refine cf rfl rfl ?_
         refine rj 0 1 rfl ?_
         exact w43 (.p2 i (b_1.toNat : Int)) _ hF _ _ ⟨rfl, rfl, trivial⟩ hs
 · refine rn 7 rfl ?_
   refine ci hF rfl (fun c_8 hF => ?_) (fun c_8 hF => ?_)
   · refine rn 5 rfl ?_
     cases hF
     exact rD (rlt (rlt (rlt rl0))) rfl
   · obtain ⟨b_9, g_10, hF⟩ := bind_some hF
     refine rn 2 rfl ?_
     refine W.o (e_ixS rfl rfl g_10) ?_
     refine rn 4 rfl ?_
     refine bi hF (fun c_11 hF => ?_) (fun c_11 hF => ?_)
     · refine wfx 51 rfl c_11 ?_
       refine rn 6 rfl ?_
       refine ct rfl rfl ?_
       exact w43 (.p3 (IntKind.wrap .i64 (i + 1)) (b_9.toNat : Int)) _ hF _ _ ⟨rfl, rfl, trivial⟩ hs
     · refine wfx 51 rfl c_11 ?_
       refine rn 2 rfl ?_
       refine bi hF (fun c_12 hF => ?_) (fun c_12 hF => ?_)
       · refine wfx 53 rfl c_12 ?_
         refine rn 4 rfl ?_
         refine ci hF rfl (fun c_13 hF => ?_) (fun c_13 hF => ?_)
         · exact w43 (.p3 (IntKind.wrap .i64 (i + 1)) (b_9.toNat : Int)) _ hF _ _ ⟨rfl, rfl, trivial⟩ hs
         · refine rj 0 1 rfl ?_
           exact w43 (.p4 s (IntKind.wrap .i64 (i + 1)) (b_9.toNat : Int)) _ hF _ _ ⟨rfl, rfl, rfl, trivial⟩ hs
       · refine wfx 53 rfl c_12 ?_
         refine rn 4 rfl ?_
         refine cf rfl rfl ?_
         refine rj 0 1 rfl ?_
         exact w43 (.p4 s (IntKind.wrap .i64 (i + 1)) (b_9.toNat : Int)) _ hF _ _ ⟨rfl, rfl, rfl, trivial⟩ hs
/-! ### 22: paddock/lines.Unquote -/
def C22_7 : ACode := .s (.ops [q 2 (.mv (.c (.str []))), q 3 (.mv (ki 0)), q 4 (.mv (ki 10)), q 5 (.mv (ki 0))]) .ret
def C22_28 : ACode := .cond 25 (.s (.ops [q 26 (.mv 6), q 27 (.b2s 26), q 28 (.mv 7), q 29 (.binI .add 28 (ki 1)), q 2 (.mv 27), q 3 (.mv 29), q 4 (.mv (ki 0)), q 5 (.mv (ki 0))]) .ret) .skip
def C22_35 : ACode := .s (.s (.ops [q 37 (.mv 10), q 38 (.binI .geq 37 (ki 0))]) (.cond 38 (.s (.ops [q 39 (.mv 10), q 2 (.mv (.c (.str []))), q 3 (.mv (ki 0)), q 4 (.mv (ki 10)), q 5 (.mv 39)]) .ret) .skip)) (.s (.ops [q 40 (.mv 6), q 41 (.mv 8), q 42 (.bslice 1 1 false [(.int .u8 0)] [(0, (1, 41))] false), q 43 (.app 1 1 40 42), q 6 (.mv 43)]) (.ops [q 44 (.mv 9), q 7 (.mv 44)]))
def C22_18 : ACode := .s (.s (.ops [q 18 (.mv 7), q 19 (.mv 0), q 20 (.lenS 19), q 21 (.binI .lss 18 20)]) (.cond 21 .skip (.exit 0))) (.block 1 (.s (.s (.ops [q 22 (.mv 0), q 23 (.mv 7), q 24 (.ixS 22 23), q 25 (.binI .eql 24 (ku 34))]) C22_28) (.s (.ops [q 31 (.mv 0), q 32 (.mv 7), qc 33 43 [31, 32, (.c (.bool true))], q 30 (.mv 33), q 34 (.extract 30 0), q 35 (.extract 30 1), q 36 (.extract 30 2), q 8 (.mv 34), q 9 (.mv 35), q 10 (.mv 36)]) C22_35)))
def C22_46 : ACode := .s (.ops [q 45 (.mv 0), q 46 (.lenS 45), q 2 (.mv (.c (.str []))), q 3 (.mv (ki 0)), q 4 (.mv (ki 10)), q 5 (.mv 46)]) .ret
def C22_11 : ACode := .s (.ops [q 6 (.mv (.c .nils))]) (.s (.s (.ops [q 7 (.mv (ki 1))]) (.block 0 (.loop C22_18))) C22_46)
def C22_1 : ACode := .s (.ops [q 2 (.mv (.c (.str []))), q 3 (.mv (ki 0)), q 4 (.mv (ki 0)), q 5 (.mv (ki 0))]) (.s (.s (.ops [q 11 (.mv 0), q 12 (.binS .eql 11 (.c (.str []))), q 13 (.mv 12), (q 14 (.mv 0)).n 13, (q 15 (.ixS 14 (ki 0))).n 13, (q 16 (.binI .neq 15 (ku 34))).n 13, q 17 (.pick 13 (.c (.bool true)) 16)]) (.cond 17 C22_7 .skip)) C22_11)
def R22 : List RA := [(.tmp 2), (.tmp 3), (.tmp 4), (.tmp 5)]
theorem k22 : compF Tryd.prog (muL []) 22 = some ⟨47, C22_1, R22⟩ := by kernel_rfl
noncomputable abbrev X22 (r : Str × Int × Int × Int) : Cx := cD Tryd.prog gE 47 R22 (AV.tup [AV.str r.1, AV.int .i64 r.2.1, AV.int .i64 r.2.2.1, AV.int .i64 r.2.2.2])
inductive St22 where
 | p1 
 | p2 (s : Str) (i : Int) (out : Sl Int)
noncomputable def G22 : St22 → Option (Str × Int × Int × Int)
 | .p1  =>
  (some (([] : Str), 0, 10, 0))
 | .p2 s i out =>
  (if (decide (i < ((s).length : Int))) = true then
   (ix s i >>= fun b_7 =>
    (if ((b_7.toNat : Int) == 34) = true then
     (some (toBs (ls out), IntKind.wrap .i64 (i + 1), 0, 0))
    else
     (F43 s i true >>= fun r_10 =>
      (if (decide (r_10.2.2 ≥ 0)) = true then
       (some (([] : Str), 0, 10, r_10.2.2))
      else
       (if ((ls out).length + (ls (some ([r_10.1] : List Int))).length) * 1 ≤ 140737488355328 then
        (G22 (.p2 s r_10.2.1 (sapp out (ls (some ([r_10.1] : List Int))))))
       else none)))))
  else
   (some (([] : Str), 0, 10, ((s).length : Int))))
 partial_fixpoint
def M22 (x : St22) (r : Str × Int × Int × Int) : Prop := match x with
 | .p1  => ∀ (tm : Fr) (st : Store), Frm tm [] → SH st [] → W (X22 r) [.code C22_7, .code C22_11] tm st
 | .p2 s i out => ∀ (tm : Fr) (st : Store) (io0 : Nat), Frm tm [(0, AV.str s), (6, ownV 1 (AV.int .u8) out io0), (7, AV.int .i64 i)] → SH st [ownA io0 out] → W (X22 r) [.lp C22_18, .blk 0, .code C22_46] tm st
theorem w22 : ∀ (x : St22) (r : Str × Int × Int × Int), G22 x = some r → M22 x r := by
 refine G22.partial_correctness M22 ?_
 intro g ih x r hF
 cases x with
 | p1  =>
  dsimp only at hF
  intro tm st hf hs
  refine en hf ?_
  refine rn 4 rfl ?_
  cases hF
  exact rD (rlt (rlt (rlt (rlt rl0)))) rfl
 | p2 s i out =>
  dsimp only at hF
  intro tm st io0 hf hs
  refine en hf ?_
  refine lp ?_
  refine rn 4 rfl ?_
  refine ci hF rfl (fun c_6 hF => ?_) (fun c_6 hF => ?_)
  · obtain ⟨b_7, g_8, hF⟩ := bind_some hF
    refine rn 2 rfl ?_
    refine W.o (e_ixS rfl rfl g_8) ?_
    refine rn 1 rfl ?_
    refine ci hF rfl (fun c_9 hF => ?_) (fun c_9 hF => ?_)
    · refine rn 1 rfl ?_
      refine W.o (e_b2s (rd_W (o := out) (id := io0) rfl)) ?_
      refine rn 6 rfl ?_
      cases hF
      exact rD (rlt (rlt (rlt (rlt rl0)))) rfl
    · obtain ⟨r_10, g_11, hF⟩ := bind_some hF
      refine rn 2 rfl ?_
      refine df (d43 s i true _ g_11) rfl ?_
      refine rn 9 rfl ?_
      refine ci hF rfl (fun c_12 hF => ?_) (fun c_12 hF => ?_)
      · refine rn 5 rfl ?_
        cases hF
        exact rD (rlt (rlt (rlt (rlt rl0)))) rfl
      · refine rn 2 rfl ?_
        refine bs (f := AV.int .u8) ([r_10.1] : List Int) hs rfl rfl rfl rfl fun st b_13 hs => ?_
        obtain ⟨g_14, hF⟩ := grd_some hF
        refine ap (ys := ls (some ([r_10.1] : List Int))) hs 1 rfl rfl (ae_rd (rd_W (o := (some ([r_10.1] : List Int))) (id := b_13) rfl)) g_14 (fun _ => rfl) fun st b_15 hs => ?_
        refine rn 3 rfl ?_
        exact ih (.p2 s r_10.2.1 (sapp out (ls (some ([r_10.1] : List Int))))) _ hF _ _ b_15 ⟨rfl, rfl, rfl, trivial⟩ (hs.p 2 [1] rfl)
  · refine rn 6 rfl ?_
    cases hF
    exact rD (rlt (rlt (rlt (rlt rl0)))) rfl
noncomputable def F22 (s : Str) : Option (Str × Int × Int × Int) :=
 (if (s == ([] : Str)) = true then
  (G22 (.p1))
 else
  (ix s 0 >>= fun b_2 =>
   (if ((b_2.toNat : Int) != 34) = true then
    (G22 (.p1))
   else
    (G22 (.p2 s 1 none)))))
theorem d22 (s : Str) (r : Str × Int × Int × Int) (hF : F22 s = some r) : DFun Tryd.prog gE 22 [AV.str s] (AV.tup [AV.str r.1, AV.int .i64 r.2.1, AV.int .i64 r.2.2.1, AV.int .i64 r.2.2.2]) := by
 unfold F22 at hF
 refine bD k22 rfl ?_
 have hs : SH [] [] := SH.nil
 generalize ([] : Store) = st at hs ⊢
 refine rn 7 rfl ?_
 refine bi hF (fun c_1 hF => ?_) (fun c_1 hF => ?_)
 · refine wfx 13 rfl c_1 ?_
   refine rn 4 rfl ?_
   refine ct rfl rfl ?_
   exact w22 (.p1) _ hF _ _ trivial hs
 · refine wfx 13 rfl c_1 ?_
   obtain ⟨b_2, g_3, hF⟩ := bind_some hF
   refine rn 1 rfl ?_
   refine W.on rfl rfl ?_
   refine W.o (e_ixS rfl rfl g_3) ?_
   refine rn 2 rfl ?_
   refine ci hF rfl (fun c_4 hF => ?_) (fun c_4 hF => ?_)
   · exact w22 (.p1) _ hF _ _ trivial hs
   · refine rn 2 rfl ?_
     have hs := hs.ownNil Int
     exact w22 (.p2 s 1 none) _ hF _ _ 0 ⟨rfl, rfl, rfl, trivial⟩ hs
/-! ### 26: paddock/lines.List -/
def C26_40 : ACode := .s (.ops [q 37 (.mv 9), qc 38 40 [6, 37]]) (.ops [q 39 (.mv 7), q 40 (.mv 9), q 41 (.lenS 40), q 42 (.binI .add 39 41), q 7 (.mv 42)])
def C26_43 : ACode := .ops [q 43 (.binI .add 14 (ki 1)), q 14 (.mv 43)]
def C26_20 : ACode := .s (.ops [q 15 (.binI .lss 14 13)]) (.s (.cond 15 .skip (.exit 0)) (.s (.block 1 (.s (.ops [q 16 (.mv 14), q 8 (.mv 16)]) (.s (.ops [q 17 (.mv 0), q 18 (.mv 8), q 19 (.ixS 17 18), qc 20 45 [19], q 9 (.mv 20)]) (.s (.s (.ops [q 21 (.mv 1), q 22 (.binI .gtr 21 (ki 1)), q 23 (.mv 22), (q 24 (.mv 7)).y 23, (q 25 (.binI .gtr 24 (ki 0))).y 23, q 26 (.pick 23 25 (.c (.bool false))), q 27 (.mv 26), (q 28 (.mv 7)).y 27, (q 29 (.mv 9)).y 27, (q 30 (.lenS 29)).y 27, (q 31 (.binI .add 28 30)).y 27, (q 32 (.mv 1)).y 27, (q 33 (.binI .sub 32 (ki 1))).y 27, (q 34 (.binI .gtr 31 33)).y 27, q 35 (.pick 27 34 (.c (.bool false)))]) (.cond 35 (.s (.ops [qc 36 40 [6, (.c (.str [92, 10]))]]) (.ops [q 7 (.mv (ki 0))])) .skip)) C26_40)))) C26_43))
def C26_44 : ACode := .s (.ops [qc 44 40 [6, (.c (.str [36, 10]))]]) (.s (.ops [qc 45 42 [6], q 4 (.mv 45), q 5 (.mv (ki 0))]) .ret)
def C26_1 : ACode := .s (.ops [q 4 (.mv (.c (.str []))), q 5 (.mv (ki 0))]) (.s (.s (.ops [q 10 (.mv 1), q 11 (.binI .lss 10 (ki 0))]) (.cond 11 (.s (.ops [q 4 (.mv (.c (.str []))), q 5 (.mv (ki 2))]) .ret) .skip)) (.s (.ops [q 6 (.allocB 60 2 [.nilptr, .nils])]) (.s (.ops [q 7 (.mv (ki 0))]) (.s (.s (.ops [q 12 (.mv 0), q 13 (.lenS 12), q 14 (.mv (ki 0))]) (.block 0 (.loop C26_20))) C26_44))))
def R26 : List RA := [(.tmp 4), (.tmp 5)]
theorem k26 : compF Tryd.prog (muL []) 26 = some ⟨46, C26_1, R26⟩ := by kernel_rfl
noncomputable abbrev X26 (r : Str × Int) : Cx := cD Tryd.prog gE 46 R26 (AV.tup [AV.str r.1, AV.int .i64 r.2])
inductive St26 where
 | p1 (s : Str) (width : Int) (row : Int) (t13_ : Int) (t14_ : Int) (b : Str)
 | p2 (s : Str) (width : Int) (row : Int) (t : Str) (t13_ : Int) (t14_ : Int) (b : Str)
noncomputable def G26 : St26 → Option (Str × Int)
 | .p1 s width row t13_ t14_ b =>
  (if (decide (t14_ < t13_)) = true then
   (ix s t14_ >>= fun b_4 =>
    (F45 (b_4.toNat : Int) >>= fun r_6 =>
     (if (decide (width > 1)) = true then
      (if (decide (row > 0)) = true then
       (if (decide ((IntKind.wrap .i64 (row + ((r_6).length : Int))) > (IntKind.wrap .i64 (width - 1)))) = true then
        (bWS b ([92, 10] : Str) >>= fun r_11 =>
         (G26 (.p2 s width 0 r_6 t13_ t14_ r_11.2.2)))
       else
        (G26 (.p2 s width row r_6 t13_ t14_ b)))
      else
       (G26 (.p2 s width row r_6 t13_ t14_ b)))
     else
      (G26 (.p2 s width row r_6 t13_ t14_ b)))))
  else
   (bWS b ([36, 10] : Str) >>= fun r_13 =>
    (bST r_13.2.2 >>= fun r_15 =>
     (some (r_15, 0)))))
 | .p2 s width row t t13_ t14_ b =>
  (bWS b t >>= fun r_17 =>
   (G26 (.p1 s width (IntKind.wrap .i64 (row + ((t).length : Int))) t13_ (IntKind.wrap .i64 (t14_ + 1)) r_17.2.2)))
 partial_fixpoint
def M26 (x : St26) (r : Str × Int) : Prop := match x with
 | .p1 s width row t13_ t14_ b => ∀ (tm : Fr) (st : Store) (io0 : Nat), Frm tm [(0, AV.str s), (1, AV.int .i64 width), (6, .ptr io0 0), (7, AV.int .i64 row), (13, AV.int .i64 t13_), (14, AV.int .i64 t14_)] → SH st [bldA 60 5 io0 b] → W (X26 r) [.lp C26_20, .blk 0, .code C26_44] tm st
 | .p2 s width row t t13_ t14_ b => ∀ (tm : Fr) (st : Store) (io0 : Nat), Frm tm [(0, AV.str s), (1, AV.int .i64 width), (6, .ptr io0 0), (7, AV.int .i64 row), (9, AV.str t), (13, AV.int .i64 t13_), (14, AV.int .i64 t14_)] → SH st [bldA 60 5 io0 b] → W (X26 r) [.code C26_40, .blk 1, .code C26_43, .lp C26_20, .blk 0, .code C26_44] tm st
theorem w26 : ∀ (x : St26) (r : Str × Int), G26 x = some r → M26 x r := by
 refine G26.partial_correctness M26 ?_
 intro g ih x r hF
 cases x with
 | p1 s width row t13_ t14_ b =>
  dsimp only at hF
  intro tm st io0 hf hs
  refine en hf ?_
  refine lp ?_
  refine rn 1 rfl ?_
  refine ci hF rfl (fun c_3 hF => ?_) (fun c_3 hF => ?_)
  · obtain ⟨b_4, g_5, hF⟩ := bind_some hF
    refine rn 4 rfl ?_
    refine W.o (e_ixS rfl rfl g_5) ?_
    obtain ⟨r_6, g_7, hF⟩ := bind_some hF
    refine df (d45 (b_4.toNat : Int) _ g_7) rfl ?_
    refine rn 4 rfl ?_
    refine bi hF (fun c_8 hF => ?_) (fun c_8 hF => ?_)
    · refine wfx 23 rfl c_8 ?_
      refine rn 4 rfl ?_
      refine bi hF (fun c_9 hF => ?_) (fun c_9 hF => ?_)
      · refine wfx 27 rfl c_9 ?_
        refine rn 8 rfl ?_
        refine ci hF rfl (fun c_10 hF => ?_) (fun c_10 hF => ?_)
        · obtain ⟨r_11, g_12, hF⟩ := bind_some hF
          refine rn 0 rfl ?_
          refine cl (ale rfl) (dWS b ([92, 10] : Str) _ g_12 _ _ io0 (fun st hs => ?_) _ hs)
          refine rj 1 1 rfl ?_
          exact ih (.p2 s width 0 r_6 t13_ t14_ r_11.2.2) _ hF _ _ io0 ⟨rfl, rfl, rfl, rfl, rfl, rfl, rfl, trivial⟩ hs
        · refine rj 0 1 rfl ?_
          exact ih (.p2 s width row r_6 t13_ t14_ b) _ hF _ _ io0 ⟨rfl, rfl, rfl, rfl, rfl, rfl, rfl, trivial⟩ hs
      · refine wfx 27 rfl c_9 ?_
        refine rn 8 rfl ?_
        refine cf rfl rfl ?_
        refine rj 0 1 rfl ?_
        exact ih (.p2 s width row r_6 t13_ t14_ b) _ hF _ _ io0 ⟨rfl, rfl, rfl, rfl, rfl, rfl, rfl, trivial⟩ hs
    · refine wfx 23 rfl c_8 ?_
      refine rn 12 rfl ?_
      refine cf rfl rfl ?_
      refine rj 0 1 rfl ?_
      exact ih (.p2 s width row r_6 t13_ t14_ b) _ hF _ _ io0 ⟨rfl, rfl, rfl, rfl, rfl, rfl, rfl, trivial⟩ hs
  · obtain ⟨r_13, g_14, hF⟩ := bind_some hF
    refine rn 0 rfl ?_
    refine cl (ale rfl) (dWS b ([36, 10] : Str) _ g_14 _ _ io0 (fun st hs => ?_) _ hs)
    obtain ⟨r_15, g_16, hF⟩ := bind_some hF
    refine rn 0 rfl ?_
    refine cl (ale rfl) (dST r_13.2.2 _ g_16 _ _ io0 (fun st hs => ?_) _ hs)
    refine rn 2 rfl ?_
    cases hF
    exact rD (rlt (rlt rl0)) rfl
 | p2 s width row t t13_ t14_ b =>
  dsimp only at hF
  intro tm st io0 hf hs
  refine en hf ?_
  obtain ⟨r_17, g_18, hF⟩ := bind_some hF
  refine rn 1 rfl ?_
  refine cl (ale rfl) (dWS b t _ g_18 _ _ io0 (fun st hs => ?_) _ hs)
  refine rn 7 rfl ?_
  exact ih (.p1 s width (IntKind.wrap .i64 (row + ((t).length : Int))) t13_ (IntKind.wrap .i64 (t14_ + 1)) r_17.2.2) _ hF _ _ io0 ⟨rfl, rfl, rfl, rfl, rfl, rfl, trivial⟩ hs
noncomputable def F26 (s : Str) (width : Int) : Option (Str × Int) :=
 (if (decide (width < 0)) = true then
  (some (([] : Str), 2))
 else
  (G26 (.p1 s width 0 ((s).length : Int) 0 ([] : Str))))
theorem d26 (s : Str) (width : Int) (r : Str × Int) (hF : F26 s width = some r) : DFun Tryd.prog gE 26 [AV.str s, AV.int .i64 width] (AV.tup [AV.str r.1, AV.int .i64 r.2]) := by
 unfold F26 at hF
 refine bD k26 rfl ?_
 have hs : SH [] [] := SH.nil
 generalize ([] : Store) = st at hs ⊢
 refine rn 4 rfl ?_
 refine ci hF rfl (fun c_1 hF => ?_) (fun c_1 hF => ?_)
 · refine rn 2 rfl ?_
   cases hF
   exact rD (rlt (rlt rl0)) rfl
 · refine rn 0 rfl ?_
   refine bld_new (T := 5) hs fun st b_2 hs => ?_
   refine rn 4 rfl ?_
   exact w26 (.p1 s width 0 ((s).length : Int) 0 ([] : Str)) _ hF _ _ b_2 ⟨rfl, rfl, rfl, rfl, rfl, rfl, trivial⟩ hs
/-! ### 19: paddock/lines.Join -/
def C19_20 : ACode := .s (.ops [q 12 (.faddr 0 5), q 13 (.load1 12), qc 14 40 [3, 13]]) (.s (.ops [q 15 (.faddr 1 5), q 16 (.load1 15)]) (.cond 16 (.ops [qc 17 41 [3, (ku 10)]]) .skip))
def C19_10 : ACode := .s (.ops [q 9 (.binI .lss 8 7)]) (.s (.cond 9 .skip (.exit 0)) (.s (.block 1 (.s (.ops [q 10 (.iaddrL 2 6 8), q 11 (.loadN 2 10), q 5 (.alloc [(.str []), (.bool false)]), q0 (.store 2 5 11)]) C19_20)) (.ops [q 18 (.binI .add 8 (ki 1)), q 8 (.mv 18)])))
def C19_28 : ACode := .s (.ops [qc 19 42 [3], q 2 (.mv 19)]) .ret
def C19_1 : ACode := .s (.ops [q 2 (.mv (.c (.str [])))]) (.s (.ops [q 3 (.allocB 60 2 [.nilptr, .nils])]) (.s (.s (.ops [q 6 (.mv 0), q 7 (.len 6), q 8 (.mv (ki 0))]) (.block 0 (.loop C19_10))) C19_28))
def R19 : List RA := [(.tmp 2)]
theorem k19 : compF Tryd.prog (muL []) 19 = some ⟨20, C19_1, R19⟩ := by kernel_rfl
noncomputable abbrev X19 (r : Str) : Cx := cD Tryd.prog gE 20 R19 (AV.str r)
inductive St19 where
 | p1 (t6_ : Sl T25) (t7_ : Int) (t8_ : Int) (b : Str)
noncomputable def G19 : St19 → Option Str
 | .p1 t6_ t7_ t8_ b =>
  (if (decide (t8_ < t7_)) = true then
   (ix (ls t6_) t8_ >>= fun v_3 =>
    (bWS b v_3.Text >>= fun r_6 =>
     (if v_3.Whole = true then
      (bWB r_6.2.2 10 >>= fun r_9 =>
       (G19 (.p1 t6_ t7_ (IntKind.wrap .i64 (t8_ + 1)) r_9.2)))
     else
      (G19 (.p1 t6_ t7_ (IntKind.wrap .i64 (t8_ + 1)) r_6.2.2)))))
  else
   (bST b >>= fun r_11 =>
    (some r_11)))
 partial_fixpoint
def M19 (x : St19) (r : Str) : Prop := match x with
 | .p1 t6_ t7_ t8_ b => ∀ (tm : Fr) (st : Store) (io0 : Nat), Frm tm [(3, .ptr io0 0), (6, slV 2 v25 t6_), (7, AV.int .i64 t7_), (8, AV.int .i64 t8_)] → SH st [bldA 60 5 io0 b] → W (X19 r) [.lp C19_10, .blk 0, .code C19_28] tm st
theorem w19 : ∀ (x : St19) (r : Str), G19 x = some r → M19 x r := by
 refine G19.partial_correctness M19 ?_
 intro g ih x r hF
 cases x with
 | p1 t6_ t7_ t8_ b =>
  dsimp only at hF
  intro tm st io0 hf hs
  refine en hf ?_
  refine lp ?_
  refine rn 1 rfl ?_
  refine ci hF rfl (fun c_2 hF => ?_) (fun c_2 hF => ?_)
  · obtain ⟨v_3, g_4, hF⟩ := bind_some hF
    refine rn 0 rfl ?_
    refine W.o (e_iaddrL (rd_V rfl) rfl g_4) ?_
    refine W.o (lND (s := c25 v_3) rfl rfl rfl) ?_
    refine al hs (cs := c25 ({ Text := [], Whole := false } : T25)) rfl fun st b_5 hs => ?_
    refine sr hs 0 rfl rfl rfl (cs' := c25 v_3) rfl rfl fun st hs => ?_
    refine rn 0 rfl ?_
    refine W.o (e_faddr rfl (hs.g 0 rfl)) ?_
    refine W.o (l1 rfl (hs.g 0 rfl) rfl) ?_
    obtain ⟨r_6, g_7, hF⟩ := bind_some hF
    refine cl (ale rfl) (dWS b v_3.Text _ g_7 _ _ io0 (fun st hs => ?_) _ (hs.p 2 [1, 0] rfl))
    refine rn 0 rfl ?_
    refine W.o (e_faddr rfl (hs.g 1 rfl)) ?_
    refine W.o (l1 rfl (hs.g 1 rfl) rfl) ?_
    refine rn 0 rfl ?_
    refine ci hF rfl (fun c_8 hF => ?_) (fun c_8 hF => ?_)
    · obtain ⟨r_9, g_10, hF⟩ := bind_some hF
      refine rn 0 rfl ?_
      refine cl (ale rfl) (dWB r_6.2.2 10 _ g_10 _ _ io0 (fun st hs => ?_) _ hs)
      refine rn 2 rfl ?_
      exact ih (.p1 t6_ t7_ (IntKind.wrap .i64 (t8_ + 1)) r_9.2) _ hF _ _ io0 ⟨rfl, rfl, rfl, rfl, trivial⟩ (hs.p 2 [0] rfl)
    · refine rn 2 rfl ?_
      exact ih (.p1 t6_ t7_ (IntKind.wrap .i64 (t8_ + 1)) r_6.2.2) _ hF _ _ io0 ⟨rfl, rfl, rfl, rfl, trivial⟩ (hs.p 2 [0] rfl)
  · obtain ⟨r_11, g_12, hF⟩ := bind_some hF
    refine rn 0 rfl ?_
    refine cl (ale rfl) (dST b _ g_12 _ _ io0 (fun st hs => ?_) _ hs)
    refine rn 1 rfl ?_
    cases hF
    exact rD (rlt rl0) rfl
noncomputable def F19 (l : Sl T25) : Option Str :=
 (G19 (.p1 l ((ls l).length : Int) 0 ([] : Str)))
theorem d19 (l : Sl T25) (r : Str) (hF : F19 l = some r) : DFun Tryd.prog gE 19 [slV 2 v25 l] (AV.str r) := by
 unfold F19 at hF
 refine bD k19 rfl ?_
 have hs : SH [] [] := SH.nil
 generalize ([] : Store) = st at hs ⊢
 refine rn 1 rfl ?_
 refine bld_new (T := 5) hs fun st b_1 hs => ?_
 refine rn 1 rfl ?_
 refine W.o (e_len (rd_V rfl)) ?_
 refine rn 1 rfl ?_
 exact w19 (.p1 l ((ls l).length : Int) 0 ([] : Str)) _ hF _ _ b_1 ⟨rfl, rfl, rfl, rfl, trivial⟩ hs
/-! ### 13: paddock/paddocklaw01.lives -/
def O13_8o1 : List AOp := (q 41 (.bslice 2 1 true [(.str []), (.bool false)] [(0, (2, 40))] false)).y 39 :: (qc 42 19 [41]).y 39 :: (q 43 (.binS .eql 42 (.c (.str [97, 10])))).y 39 :: q 44 (.pick 39 43 (.c (.bool false))) :: q 0 (.mv 44) :: []
def O13_8o0 : List AOp := q 17 (.mv 2) :: q 18 (.binI .eql 17 (ki 0)) :: q 19 (.mv 18) :: (q 20 (.mv 1)).y 19 :: (q 21 (.binS .eql 20 (.c (.str [97, 92, 116, 98, 92, 48, 48, 48, 92, 110, 36, 10])))).y 19 :: q 22 (.pick 19 21 (.c (.bool false))) :: q 23 (.mv 22) :: (q 24 (.mv 5)).y 23 :: (q 25 (.binI .eql 24 (ki 0))).y 23 :: q 26 (.pick 23 25 (.c (.bool false))) :: q 27 (.mv 26) :: (q 28 (.mv 4)).y 27 :: (q 29 (.binI .eql 28 (ki 5))).y 27 :: q 30 (.pick 27 29 (.c (.bool false))) :: q 31 (.mv 30) :: (q 32 (.mv 3)).y 31 :: (q 33 (.binS .eql 32 (.c (.str [97, 10])))).y 31 :: q 34 (.pick 31 33 (.c (.bool false))) :: q 35 (.mv 34) :: (qc 36 21 [(.c (.str [97, 10, 98]))]).y 35 :: (q 37 (.binI .eql 36 (ki 2))).y 35 :: q 38 (.pick 35 37 (.c (.bool false))) :: q 39 (.mv 38) :: (q 40 (.build [(.str []), (.bool false)] [(0, (1, (.c (.str [97])))), (1, (1, (.c (.bool true))))])).y 39 :: O13_8o1
def C13_1 : ACode := .s (.ops [q 0 (.mv (.c (.bool false)))]) (.s (.ops [qc 8 26 [(.c (.str [97, 9, 98, 0, 10])), (ki 0)], q 7 (.mv 8), q 9 (.extract 7 0), q 10 (.extract 7 1), q 1 (.mv 9), q 2 (.mv 10)]) (.s (.ops [qc 12 22 [(.c (.str [34, 97, 92, 110, 34, 120]))], q 11 (.mv 12), q 13 (.extract 11 0), q 14 (.extract 11 1), q 15 (.extract 11 2), q 16 (.extract 11 3), q 3 (.mv 13), q 4 (.mv 14), q 5 (.mv 15), q 6 (.mv 16)]) (.s (.ops O13_8o0) .ret)))
def R13 : List RA := [(.tmp 0)]
theorem k13 : compF Tryd.prog (muL []) 13 = some ⟨45, C13_1, R13⟩ := by kernel_rfl
noncomputable abbrev X13 (r : Bool) : Cx := cD Tryd.prog gE 45 R13 (AV.bool r)
noncomputable def F13  : Option Bool :=
 (F26 ([97, 9, 98, 0, 10] : Str) 0 >>= fun r_1 =>
  (F22 ([34, 97, 92, 110, 34, 120] : Str) >>= fun r_3 =>
   (if (r_1.2 == 0) = true then
    (if (r_1.1 == ([97, 92, 116, 98, 92, 48, 48, 48, 92, 110, 36, 10] : Str)) = true then
     (if (r_3.2.2.1 == 0) = true then
      (if (r_3.2.1 == 5) = true then
       (if (r_3.1 == ([97, 10] : Str)) = true then
        (F21 ([97, 10, 98] : Str) >>= fun r_10 =>
         (if (r_10 == 2) = true then
          (F19 (some ([({ Text := ([97] : Str), Whole := true } : T25)] : List T25)) >>= fun r_14 =>
           (some (r_14 == ([97, 10] : Str))))
         else
          (some false)))
       else
        (some false))
      else
       (some false))
     else
      (some false))
    else
     (some false))
   else
    (some false))))
theorem d13  (r : Bool) (hF : F13  = some r) : DFun Tryd.prog gE 13 [] (AV.bool r) := by
 unfold F13 at hF
 refine bD k13 rfl ?_
 have hs : SH [] [] := SH.nil
 generalize ([] : Store) = st at hs ⊢
 obtain ⟨r_1, g_2, hF⟩ := bind_some hF
 refine rn 1 rfl ?_
 refine df (d26 ([97, 9, 98, 0, 10] : Str) 0 _ g_2) rfl ?_
 obtain ⟨r_3, g_4, hF⟩ := bind_some hF
 refine rn 5 rfl ?_
 refine df (d22 ([34, 97, 92, 110, 34, 120] : Str) _ g_4) rfl ?_
 refine rn 12 rfl ?_
 refine bi hF (fun c_5 hF => ?_) (fun c_5 hF => ?_)
 · refine wfx 19 rfl c_5 ?_
   refine rn 4 rfl ?_
   refine bi hF (fun c_6 hF => ?_) (fun c_6 hF => ?_)
   · refine wfx 23 rfl c_6 ?_
     refine rn 4 rfl ?_
     refine bi hF (fun c_7 hF => ?_) (fun c_7 hF => ?_)
     · refine wfx 27 rfl c_7 ?_
       refine rn 4 rfl ?_
       refine bi hF (fun c_8 hF => ?_) (fun c_8 hF => ?_)
       · refine wfx 31 rfl c_8 ?_
         refine rn 4 rfl ?_
         refine bi hF (fun c_9 hF => ?_) (fun c_9 hF => ?_)
         · refine wfx 35 rfl c_9 ?_
           obtain ⟨r_10, g_11, hF⟩ := bind_some hF
           refine W.on rfl rfl ?_
           refine df (d21 ([97, 10, 98] : Str) _ g_11) rfl ?_
           refine rn 3 rfl ?_
           refine bi hF (fun c_12 hF => ?_) (fun c_12 hF => ?_)
           · refine wfx 39 rfl c_12 ?_
             refine W.on rfl rfl ?_
             refine W.o (bR (cs := c25 ({ Text := ([97] : Str), Whole := true } : T25)) rfl rfl) ?_
             refine W.on rfl rfl ?_
             refine bs (f := v25) ([({ Text := ([97] : Str), Whole := true } : T25)] : List T25) hs rfl rfl rfl rfl fun st b_13 hs => ?_
             obtain ⟨r_14, g_15, hF⟩ := bind_some hF
             refine W.on rfl rfl ?_
             refine df' (d19 (some ([({ Text := ([97] : Str), Whole := true } : T25)] : List T25)) _ g_15) (ds := [slV 2 v25 (some ([({ Text := ([97] : Str), Whole := true } : T25)] : List T25))]) (dsl_cons (dsw (es := 2) (f := v25) (o := (some ([({ Text := ([97] : Str), Whole := true } : T25)] : List T25))) (id := b_13)) dsl_nil) ?_
             refine rn 3 rfl ?_
             cases hF
             exact rD (rlt rl0) rfl
           · refine wfx 39 rfl c_12 ?_
             refine rn 6 rfl ?_
             cases hF
             exact rD (rlt rl0) rfl
         · refine wfx 35 rfl c_9 ?_
           refine rn 10 rfl ?_
           cases hF
           exact rD (rlt rl0) rfl
       · refine wfx 31 rfl c_8 ?_
         refine rn 14 rfl ?_
         cases hF
         exact rD (rlt rl0) rfl
     · refine wfx 27 rfl c_7 ?_
       refine rn 18 rfl ?_
       cases hF
       exact rD (rlt rl0) rfl
   · refine wfx 23 rfl c_6 ?_
     refine rn 22 rfl ?_
     cases hF
     exact rD (rlt rl0) rfl
 · refine wfx 19 rfl c_5 ?_
   refine rn 26 rfl ?_
   cases hF
   exact rD (rlt rl0) rfl
/-! ### 15: paddock/paddockref01.Same -/
def C15_26 : ACode := .s (.draw [] 0 0 [q 16 (.mv 0), q 17 (.mv 5), q 18 (.iaddrL 2 16 17), q 19 (.loadN 2 18), q 20 (.mv 1), q 21 (.mv 5), q 22 (.iaddrL 2 20 21), q 23 (.loadN 2 22), q 24 (.eqA true [.s, .b] 19 23)] []) (.cond 24 (.s (.ops [q 4 (.mv (.c (.bool false)))]) .ret) .skip)
def C15_16 : ACode := .s (.ops [q 14 (.binI .lss 13 12)]) (.s (.cond 14 .skip (.exit 0)) (.s (.block 1 (.s (.ops [q 15 (.mv 13), q 5 (.mv 15)]) C15_26)) (.ops [q 25 (.binI .add 13 (ki 1)), q 13 (.mv 25)])))
def C15_34 : ACode := .s (.ops [q 4 (.mv (.c (.bool true)))]) .ret
def C15_1 : ACode := .s (.ops [q 4 (.mv (.c (.bool false)))]) (.s (.s (.ops [q 6 (.mv 0), q 7 (.len 6), q 8 (.mv 1), q 9 (.len 8), q 10 (.binI .neq 7 9)]) (.cond 10 (.s (.ops [q 4 (.mv (.c (.bool false)))]) .ret) .skip)) (.s (.s (.ops [q 11 (.mv 0), q 12 (.len 11), q 13 (.mv (ki 0))]) (.block 0 (.loop C15_16))) C15_34))
def R15 : List RA := [(.tmp 4)]
theorem k15 : compF Tryd.prog (muL []) 15 = some ⟨26, C15_1, R15⟩ := by kernel_rfl
noncomputable abbrev X15 (r : Bool) : Cx := cD Tryd.prog gE 26 R15 (AV.bool r)
inductive St15 where
 | p1 (a : Sl T25) (b : Sl T25) (t12_ : Int) (t13_ : Int)
noncomputable def G15 : St15 → Option Bool
 | .p1 a b t12_ t13_ =>
  (if (decide (t13_ < t12_)) = true then
   (ix (ls a) t13_ >>= fun v_3 =>
    (ix (ls b) t13_ >>= fun v_5 =>
     (if (!decide (v_3 = v_5)) = true then
      (some false)
     else
      (G15 (.p1 a b t12_ (IntKind.wrap .i64 (t13_ + 1)))))))
  else
   (some true))
 partial_fixpoint
def M15 (x : St15) (r : Bool) : Prop := match x with
 | .p1 a b t12_ t13_ => ∀ (tm : Fr) (st : Store), Frm tm [(0, slV 2 v25 a), (1, slV 2 v25 b), (12, AV.int .i64 t12_), (13, AV.int .i64 t13_)] → SH st [] → W (X15 r) [.lp C15_16, .blk 0, .code C15_34] tm st
theorem w15 : ∀ (x : St15) (r : Bool), G15 x = some r → M15 x r := by
 refine G15.partial_correctness M15 ?_
 intro g ih x r hF
 cases x with
 | p1 a b t12_ t13_ =>
  dsimp only at hF
  intro tm st hf hs
  refine en hf ?_
  refine lp ?_
  refine rn 1 rfl ?_
  refine ci hF rfl (fun c_2 hF => ?_) (fun c_2 hF => ?_)
  · refine rn 2 rfl ?_
    have h0 := hs
    refine dr0 ?_
    obtain ⟨v_3, g_4, hF⟩ := bind_some hF
    refine dn 2 rfl ?_
    refine de rfl (e_iaddrL (rd_V rfl) rfl g_4) ?_
    refine de rfl (lND (s := c25 v_3) rfl rfl rfl) ?_
    obtain ⟨v_5, g_6, hF⟩ := bind_some hF
    refine dn 2 rfl ?_
    refine de rfl (e_iaddrL (rd_V rfl) rfl g_6) ?_
    refine de rfl (lND (s := c25 v_5) rfl rfl rfl) ?_
    refine de rfl (e_neA rfl rfl (c25_eq v_3 v_5)) ?_
    refine dz ?_
    refine rn 0 rfl ?_
    refine ci hF rfl (fun c_7 hF => ?_) (fun c_7 hF => ?_)
    · refine rn 1 rfl ?_
      cases hF
      exact rD (rlt rl0) rfl
    · refine rn 2 rfl ?_
      exact ih (.p1 a b t12_ (IntKind.wrap .i64 (t13_ + 1))) _ hF _ _ ⟨rfl, rfl, rfl, rfl, trivial⟩ hs
  · refine rn 1 rfl ?_
    cases hF
    exact rD (rlt rl0) rfl
noncomputable def F15 (a : Sl T25) (b : Sl T25) : Option Bool :=
 (if (((ls a).length : Int) != ((ls b).length : Int)) = true then
  (some false)
 else
  (G15 (.p1 a b ((ls a).length : Int) 0)))
theorem d15 (a : Sl T25) (b : Sl T25) (r : Bool) (hF : F15 a b = some r) : DFun Tryd.prog gE 15 [slV 2 v25 a, slV 2 v25 b] (AV.bool r) := by
 unfold F15 at hF
 refine bD k15 rfl ?_
 have hs : SH [] [] := SH.nil
 generalize ([] : Store) = st at hs ⊢
 refine rn 2 rfl ?_
 refine W.o (e_len (rd_V rfl)) ?_
 refine rn 1 rfl ?_
 refine W.o (e_len (rd_V rfl)) ?_
 refine rn 1 rfl ?_
 refine ci hF rfl (fun c_1 hF => ?_) (fun c_1 hF => ?_)
 · refine rn 1 rfl ?_
   cases hF
   exact rD (rlt rl0) rfl
 · refine rn 1 rfl ?_
   refine W.o (e_len (rd_V rfl)) ?_
   refine rn 1 rfl ?_
   exact w15 (.p1 a b ((ls a).length : Int) 0) _ hF _ _ ⟨rfl, rfl, rfl, rfl, trivial⟩ hs
/-! ### 16: paddock/paddockref01.Split -/
def C16_22 : ACode := .cond 15 (.s (.ops [q 16 (.mv 3), q 17 (.mv 0), q 18 (.mv 4), q 19 (.mv 5), q 20 (.slS 17 (.some 18) (.some 19)), q 21 (.build [(.str []), (.bool false)] [(0, (1, 20)), (1, (1, (.c (.bool true))))]), q 22 (.bslice 2 1 true [(.str []), (.bool false)] [(0, (2, 21))] false), q 23 (.app 2 24 16 22), q 3 (.mv 23)]) (.ops [q 24 (.mv 5), q 25 (.binI .add 24 (ki 1)), q 4 (.mv 25)])) .skip
def C16_12 : ACode := .s (.s (.ops [q 6 (.mv 5), q 7 (.mv 0), q 8 (.lenS 7), q 9 (.binI .lss 6 8)]) (.cond 9 .skip (.exit 0))) (.s (.block 1 (.s (.ops [q 12 (.mv 0), q 13 (.mv 5), q 14 (.ixS 12 13), q 15 (.binI .eql 14 (ku 10))]) C16_22)) (.ops [q 10 (.mv 5), q 11 (.binI .add 10 (ki 1)), q 5 (.mv 11)]))
def C16_28 : ACode := .s (.s (.ops [q 26 (.mv 4), q 27 (.mv 0), q 28 (.lenS 27), q 29 (.binI .lss 26 28)]) (.cond 29 (.ops [q 30 (.mv 3), q 31 (.mv 0), q 32 (.mv 4), q 33 (.slS 31 (.some 32) .none), q 34 (.build [(.str []), (.bool false)] [(0, (1, 33))]), q 35 (.bslice 2 1 true [(.str []), (.bool false)] [(0, (2, 34))] false), q 36 (.app 2 24 30 35), q 3 (.mv 36)]) .skip)) (.s (.ops [q 37 (.mv 3), q 2 (.mv 37)]) .ret)
def C16_1 : ACode := .s (.ops [q 2 (.mv (.c .nils))]) (.s (.ops [q 3 (.mv (.c .nils))]) (.s (.ops [q 4 (.mv (ki 0))]) (.s (.s (.ops [q 5 (.mv (ki 0))]) (.block 0 (.loop C16_12))) C16_28)))
def R16 : List RA := [(.tmp 2)]
theorem k16 : compF Tryd.prog (muL []) 16 = some ⟨38, C16_1, R16⟩ := by kernel_rfl
noncomputable abbrev X16 (K : AV → Store → Prop) : Cx := cK Tryd.prog gE 38 R16 K
inductive St16 where
 | p1 (s : Str) (from_ : Int) (i : Int) (out : Sl T25)
noncomputable def G16 : St16 → Option (Sl T25)
 | .p1 s from_ i out =>
  (if (decide (i < ((s).length : Int))) = true then
   (ix s i >>= fun b_3 =>
    (if ((b_3.toNat : Int) == 10) = true then
     (strcut s from_ i >>= fun w_6 =>
      (if ((ls out).length + (ls (some ([({ Text := w_6, Whole := true } : T25)] : List T25))).length) * 24 ≤ 140737488355328 then
       (G16 (.p1 s (IntKind.wrap .i64 (i + 1)) (IntKind.wrap .i64 (i + 1)) (sapp out (ls (some ([({ Text := w_6, Whole := true } : T25)] : List T25))))))
      else none))
    else
     (G16 (.p1 s from_ (IntKind.wrap .i64 (i + 1)) out))))
  else
   (if (decide (from_ < ((s).length : Int))) = true then
    (strcut s from_ ((s).length) >>= fun w_12 =>
     (if ((ls out).length + (ls (some ([({ Text := w_12, Whole := false } : T25)] : List T25))).length) * 24 ≤ 140737488355328 then
      (some (sapp out (ls (some ([({ Text := w_12, Whole := false } : T25)] : List T25)))))
     else none))
   else
    (some out)))
 partial_fixpoint
def M16 (x : St16) (r : Sl T25) : Prop := match x with
 | .p1 s from_ i out => ∀ (K : AV → Store → Prop) (Ls : List Asn), (∀ st id, SH st (ownA id r :: Ls) → K (ownV 2 v25 r id) st) → ∀ (tm : Fr) (st : Store) (io0 : Nat), Frm tm [(0, AV.str s), (3, ownV 2 v25 out io0), (4, AV.int .i64 from_), (5, AV.int .i64 i)] → SH st (ownA io0 out :: Ls) → W (X16 K) [.lp C16_12, .blk 0, .code C16_28] tm st
theorem w16 : ∀ (x : St16) (r : Sl T25), G16 x = some r → M16 x r := by
 refine G16.partial_correctness M16 ?_
 intro g ih x r hF
 cases x with
 | p1 s from_ i out =>
  dsimp only at hF
  intro K Ls hK tm st io0 hf hs
  refine en hf ?_
  refine lp ?_
  refine rn 4 rfl ?_
  refine ci hF rfl (fun c_2 hF => ?_) (fun c_2 hF => ?_)
  · obtain ⟨b_3, g_4, hF⟩ := bind_some hF
    refine rn 2 rfl ?_
    refine W.o (e_ixS rfl rfl g_4) ?_
    refine rn 1 rfl ?_
    refine ci hF rfl (fun c_5 hF => ?_) (fun c_5 hF => ?_)
    · obtain ⟨w_6, g_7, hF⟩ := bind_some hF
      refine rn 4 rfl ?_
      refine W.o (e_slS2 rfl rfl rfl g_7) ?_
      refine W.o (bR (cs := c25 ({ Text := w_6, Whole := true } : T25)) rfl rfl) ?_
      refine bs (f := v25) ([({ Text := w_6, Whole := true } : T25)] : List T25) hs rfl rfl rfl rfl fun st b_8 hs => ?_
      obtain ⟨g_9, hF⟩ := grd_some hF
      refine ap (ys := ls (some ([({ Text := w_6, Whole := true } : T25)] : List T25))) hs 1 rfl rfl (ae_rd (rd_W (o := (some ([({ Text := w_6, Whole := true } : T25)] : List T25))) (id := b_8) rfl)) g_9 (fun _ => rfl) fun st b_10 hs => ?_
      refine rn 7 rfl ?_
      exact ih (.p1 s (IntKind.wrap .i64 (i + 1)) (IntKind.wrap .i64 (i + 1)) (sapp out (ls (some ([({ Text := w_6, Whole := true } : T25)] : List T25))))) _ hF K Ls hK _ _ b_10 ⟨rfl, rfl, rfl, rfl, trivial⟩ (hs.p 2 [1] rfl)
    · refine rn 3 rfl ?_
      exact ih (.p1 s from_ (IntKind.wrap .i64 (i + 1)) out) _ hF K Ls hK _ _ io0 ⟨rfl, rfl, rfl, rfl, trivial⟩ hs
  · refine rn 4 rfl ?_
    refine ci hF rfl (fun c_11 hF => ?_) (fun c_11 hF => ?_)
    · obtain ⟨w_12, g_13, hF⟩ := bind_some hF
      refine rn 3 rfl ?_
      refine W.o (e_slSl rfl rfl g_13) ?_
      refine W.o (bR (cs := c25 ({ Text := w_12, Whole := false } : T25)) rfl rfl) ?_
      refine bs (f := v25) ([({ Text := w_12, Whole := false } : T25)] : List T25) hs rfl rfl rfl rfl fun st b_14 hs => ?_
      obtain ⟨g_15, hF⟩ := grd_some hF
      refine ap (ys := ls (some ([({ Text := w_12, Whole := false } : T25)] : List T25))) hs 1 rfl rfl (ae_rd (rd_W (o := (some ([({ Text := w_12, Whole := false } : T25)] : List T25))) (id := b_14) rfl)) g_15 (fun _ => rfl) fun st b_16 hs => ?_
      refine rn 3 rfl ?_
      cases hF
      exact rK (rlt rl0) (hK _ _ (hs.p 2 [1] rfl)) rfl
    · refine rn 2 rfl ?_
      cases hF
      exact rK (rlt rl0) (hK _ _ (hs.p 1 [0] rfl)) rfl
noncomputable def F16 (s : Str) : Option (Sl T25) :=
 (G16 (.p1 s 0 0 none))
theorem d16 (s : Str) (r : Sl T25) (hF : F16 s = some r) : ∀ (K : AV → Store → Prop) (Ls : List Asn) (st : Store), SH st Ls → (∀ st id, SH st (ownA id r :: Ls) → K (ownV 2 v25 r id) st) → XCall Tryd.prog gE 16 [AV.str s] st K := by
 unfold F16 at hF
 intro K Ls st hs hK
 refine bK k16 rfl ?_
 refine rn 4 rfl ?_
 have hs := hs.ownNil T25
 exact w16 (.p1 s 0 0 none) _ hF K Ls hK _ _ 0 ⟨rfl, rfl, rfl, rfl, trivial⟩ hs
/-! ### 17: paddock/lines.First -/
def C17_1 : ACode := .s (.ops [q 2 (.mv (.c (.str []))), q 3 (.mv (.c (.str []))), q 4 (.mv (.c (.bool false)))]) (.s (.ops [q 5 (.mv 0), qc 6 39 [5, (.c (.str [10]))], q 7 (.extract 6 0), q 8 (.extract 6 1), q 9 (.extract 6 2), q 2 (.mv 7), q 3 (.mv 8), q 4 (.mv 9)]) .ret)
def R17 : List RA := [(.tmp 2), (.tmp 3), (.tmp 4)]
theorem k17 : compF Tryd.prog (muL []) 17 = some ⟨10, C17_1, R17⟩ := by kernel_rfl
noncomputable abbrev X17 (r : Str × Str × Bool) : Cx := cD Tryd.prog gE 10 R17 (AV.tup [AV.str r.1, AV.str r.2.1, AV.bool r.2.2])
noncomputable def F17 (s : Str) : Option (Str × Str × Bool) :=
 (F39 s ([10] : Str) >>= fun r_1 =>
  (some (r_1.1, r_1.2.1, r_1.2.2)))
theorem d17 (s : Str) (r : Str × Str × Bool) (hF : F17 s = some r) : DFun Tryd.prog gE 17 [AV.str s] (AV.tup [AV.str r.1, AV.str r.2.1, AV.bool r.2.2]) := by
 unfold F17 at hF
 refine bD k17 rfl ?_
 have hs : SH [] [] := SH.nil
 generalize ([] : Store) = st at hs ⊢
 obtain ⟨r_1, g_2, hF⟩ := bind_some hF
 refine rn 4 rfl ?_
 refine df (d39 s ([10] : Str) _ g_2) rfl ?_
 refine rn 6 rfl ?_
 cases hF
 exact rD (rlt (rlt (rlt rl0))) rfl
end Go.Proofs.YtllhdbdbdblimaaDoor
