/-
  Functions of the program's as plain functions.
-/
import Derived.Test.YtllhdbdbdblimaaDoorD3
set_option linter.unusedVariables false
set_option maxRecDepth 4000
set_option maxHeartbeats 4000000
namespace Go.Proofs.YtllhdbdbdblimaaDoor
open Go AW
attribute [local irreducible] W WD SH XS XLoop DFun XCall
/-! ### 9: paddock/paddocklaw01.LinesTold -/
def O9_29o1 : List AOp := q 78 (.mv 77) :: (q 79 (.mv 14)).n 78 :: (q 80 (.mv 12)).n 78 :: (q 81 (.lenS 80)).n 78 :: (q 82 (.binI .neq 79 81)).n 78 :: q 83 (.pick 78 (.c (.bool true)) 82) :: []
def O9_29o0 : List AOp := q 54 (.mv 8) :: q 55 (.binI .neq 54 (ki 0)) :: q 56 (.mv 55) :: (q 57 (.mv 10)).n 56 :: (q 58 (.binI .neq 57 (ki 0))).n 56 :: q 59 (.pick 56 (.c (.bool true)) 58) :: q 60 (.mv 59) :: (q 61 (.mv 11)).n 60 :: (q 62 (.binI .neq 61 (ki 0))).n 60 :: q 63 (.pick 60 (.c (.bool true)) 62) :: q 64 (.mv 63) :: (q 65 (.mv 9)).n 64 :: (q 66 (.mv 0)).n 64 :: (q 67 (.binS .neq 65 66)).n 64 :: q 68 (.pick 64 (.c (.bool true)) 67) :: q 69 (.mv 68) :: (q 70 (.mv 15)).n 69 :: (q 71 (.binI .neq 70 (ki 0))).n 69 :: q 72 (.pick 69 (.c (.bool true)) 71) :: q 73 (.mv 72) :: (q 74 (.mv 13)).n 73 :: (q 75 (.mv 0)).n 73 :: (q 76 (.binS .neq 74 75)).n 73 :: q 77 (.pick 73 (.c (.bool true)) 76) :: O9_29o1
def C9_55 : ACode := .cond 111 (.s (.ops [q 6 (.mv (.c (.bool false)))]) .ret) .skip
def C9_65 : ACode := .s (.ops [q 112 (.mv 20), q 113 (.faddr 0 19), q 114 (.load1 113), q 115 (.lenS 114), q 116 (.binI .lss 112 115)]) (.cond 116 .skip (.exit 2))
def C9_70 : ACode := .s (.block 3 (.s (.ops [q 119 (.faddr 0 19), q 120 (.load1 119), q 121 (.mv 20), q 122 (.ixS 120 121), q 123 (.binI .lss 122 (ku 32)), q 124 (.mv 123), (q 125 (.faddr 0 19)).n 124, (q 126 (.load1 125)).n 124, (q 127 (.mv 20)).n 124, (q 128 (.ixS 126 127)).n 124, (q 129 (.binI .gtr 128 (ku 126))).n 124, q 130 (.pick 124 (.c (.bool true)) 129)]) (.cond 130 (.s (.ops [q 6 (.mv (.c (.bool false)))]) .ret) .skip))) (.ops [q 117 (.mv 20), q 118 (.binI .add 117 (ki 1)), q 20 (.mv 118)])
def C9_64 : ACode := .s C9_65 C9_70
def C9_60 : ACode := .s (.ops [q 20 (.mv (ki 0))]) (.block 2 (.loop C9_64))
def C9_80 : ACode := .ops [q 131 (.binI .add 88 (ki 1)), q 88 (.mv 131)]
def C9_42 : ACode := .s (.ops [q 89 (.binI .lss 88 87)]) (.s (.cond 89 .skip (.exit 0)) (.s (.block 1 (.s (.ops [q 90 (.iaddrL 2 86 88), q 91 (.loadN 2 90), q 19 (.alloc [(.str []), (.bool false)]), q0 (.store 2 19 91)]) (.s (.s (.ops [q 92 (.faddr 1 19), q 93 (.load1 92), q 94 (.un .not 93), q 95 (.mv 94), (q 96 (.mv 1)).n 95, (q 97 (.binI .gtr 96 (ki 4))).n 95, (q 98 (.mv 97)).n 95, (q 99 (.faddr 0 19)).y 98, (q 100 (.load1 99)).y 98, (q 101 (.lenS 100)).y 98, (q 102 (.mv 1)).y 98, (q 103 (.binI .gtr 101 102)).y 98, (q 104 (.pick 98 103 (.c (.bool false)))).n 95, q 105 (.pick 95 (.c (.bool true)) 104), q 106 (.mv 105), (q 107 (.faddr 0 19)).n 106, (q 108 (.load1 107)).n 106, (q 109 (.lenS 108)).n 106, (q 110 (.binI .eql 109 (ki 0))).n 106, q 111 (.pick 106 (.c (.bool true)) 110)]) C9_55) C9_60))) C9_80))
def C9_81 : ACode := .s (.ops [q 132 (.mv 17), q 133 (.len 132), q 134 (.binI .gtr 133 (ki 0)), q 135 (.mv 134), (q 136 (.mv 1)).y 135, (q 137 (.binI .gtr 136 (ki 1))).y 135, (q 138 (.mv 137)).y 135, (q 139 (.mv 17)).n 138, (q 140 (.len 139)).n 138, (q 141 (.binI .eql 140 (ki 1))).n 138, (q 142 (.pick 138 (.c (.bool true)) 141)).y 135, q 143 (.pick 135 142 (.c (.bool false))), q 6 (.mv 143)]) .ret
def C9_1 : ACode := .s (.ops [q 6 (.mv (.c (.bool false)))]) (.s (.s (.ops [qc 21 13 [], q 22 (.un .not 21)]) (.cond 22 (.s (.ops [q 6 (.mv (.c (.bool false)))]) .ret) .skip)) (.s (.ops [q 24 (.mv 0), q 25 (.mv 1), qc 26 26 [24, 25], q 23 (.mv 26), q 27 (.extract 23 0), q 28 (.extract 23 1), q 7 (.mv 27), q 8 (.mv 28)]) (.s (.s (.ops [q 29 (.mv 1), q 30 (.binI .lss 29 (ki 0))]) (.cond 30 (.s (.ops [q 31 (.mv 8), q 32 (.binI .eql 31 (ki 2)), q 33 (.mv 32), (q 34 (.mv 7)).y 33, (q 35 (.binS .eql 34 (.c (.str [])))).y 33, q 36 (.pick 33 35 (.c (.bool false))), q 6 (.mv 36)]) .ret) .skip)) (.s (.ops [q 38 (.mv 7), qc 39 28 [38], q 37 (.mv 39), q 40 (.extract 37 0), q 41 (.extract 37 1), q 42 (.extract 37 2), q 9 (.mv 40), q 10 (.mv 41), q 11 (.mv 42)]) (.s (.ops [q 43 (.mv 0), qc 44 24 [43], q 12 (.mv 44)]) (.s (.ops [q 46 (.mv 12), q 47 (.mv 2), q 48 (.binS .add 46 47), qc 49 22 [48], q 45 (.mv 49), q 50 (.extract 45 0), q 51 (.extract 45 1), q 52 (.extract 45 2), q 53 (.extract 45 3), q 13 (.mv 50), q 14 (.mv 51), q 15 (.mv 52), q 16 (.mv 53)]) (.s (.s (.ops O9_29o0) (.cond 83 (.s (.ops [q 6 (.mv (.c (.bool false)))]) .ret) .skip)) (.s (.ops [q 84 (.mv 7), qc 85 16 [84], q 17 (.mv 85)]) (.s (.s (.ops [q 86 (.mv 17), q 87 (.len 86), q 88 (.mv (ki 0))]) (.block 0 (.loop C9_42))) C9_81)))))))))
def R9 : List RA := [(.tmp 6)]
theorem k9 : compF Tryd.prog (muL []) 9 = some ⟨144, C9_1, R9⟩ := by kernel_rfl
noncomputable abbrev X9 (r : Bool) : Cx := cD Tryd.prog gE 144 R9 (AV.bool r)
inductive St9 where
 | p1 (width : Int) (rows : Sl T25) (t86_ : Sl T25) (t87_ : Int) (t88_ : Int)
 | p2 (width : Int) (rows : Sl T25) (t86_ : Sl T25) (t87_ : Int) (t88_ : Int) (t111_ : Bool) (r_ : T25)
 | p3 (width : Int) (rows : Sl T25) (i : Int) (t86_ : Sl T25) (t87_ : Int) (t88_ : Int) (r_ : T25)
noncomputable def G9 : St9 → Option Bool
 | .p1 width rows t86_ t87_ t88_ =>
  (if (decide (t88_ < t87_)) = true then
   (ix (ls t86_) t88_ >>= fun v_25 =>
    (if (!v_25.Whole) = true then
     (some false)
    else
     (if (decide (width > 4)) = true then
      (if (decide (((v_25.Text).length : Int) > width)) = true then
       (some false)
      else
       (G9 (.p2 width rows t86_ t87_ t88_ (((v_25.Text).length : Int) == 0) v_25)))
     else
      (G9 (.p2 width rows t86_ t87_ t88_ (((v_25.Text).length : Int) == 0) v_25)))))
  else
   (if (decide (((ls rows).length : Int) > 0)) = true then
    (if (decide (width > 1)) = true then
     (some true)
    else
     (some (((ls rows).length : Int) == 1)))
   else
    (some false)))
 | .p2 width rows t86_ t87_ t88_ t111_ r_ =>
  (if t111_ = true then
   (some false)
  else
   (G9 (.p3 width rows 0 t86_ t87_ t88_ r_)))
 | .p3 width rows i t86_ t87_ t88_ r_ =>
  (if (decide (i < ((r_.Text).length : Int))) = true then
   (ix r_.Text i >>= fun b_35 =>
    (if (decide ((b_35.toNat : Int) < 32)) = true then
     (some false)
    else
     (ix r_.Text i >>= fun b_38 =>
      (if (decide ((b_38.toNat : Int) > 126)) = true then
       (some false)
      else
       (G9 (.p3 width rows (IntKind.wrap .i64 (i + 1)) t86_ t87_ t88_ r_))))))
  else
   (G9 (.p1 width rows t86_ t87_ (IntKind.wrap .i64 (t88_ + 1)))))
 partial_fixpoint
def M9 (x : St9) (r : Bool) : Prop := match x with
 | .p1 width rows t86_ t87_ t88_ => ∀ (tm : Fr) (st : Store), Frm tm [(1, AV.int .i64 width), (17, slV 2 v25 rows), (86, slV 2 v25 t86_), (87, AV.int .i64 t87_), (88, AV.int .i64 t88_)] → SH st [] → W (X9 r) [.lp C9_42, .blk 0, .code C9_81] tm st
 | .p2 width rows t86_ t87_ t88_ t111_ r_ => ∀ (tm : Fr) (st : Store) (io0 : Nat), Frm tm [(1, AV.int .i64 width), (17, slV 2 v25 rows), (19, .ptr io0 0), (86, slV 2 v25 t86_), (87, AV.int .i64 t87_), (88, AV.int .i64 t88_), (111, AV.bool t111_)] → SH st [pt io0 (.cells (c25 r_))] → W (X9 r) [.code C9_55, .code C9_60, .blk 1, .code C9_80, .lp C9_42, .blk 0, .code C9_81] tm st
 | .p3 width rows i t86_ t87_ t88_ r_ => ∀ (tm : Fr) (st : Store) (io0 : Nat), Frm tm [(1, AV.int .i64 width), (17, slV 2 v25 rows), (19, .ptr io0 0), (20, AV.int .i64 i), (86, slV 2 v25 t86_), (87, AV.int .i64 t87_), (88, AV.int .i64 t88_)] → SH st [pt io0 (.cells (c25 r_))] → W (X9 r) [.lp C9_64, .blk 2, .blk 1, .code C9_80, .lp C9_42, .blk 0, .code C9_81] tm st
theorem w9 : ∀ (x : St9) (r : Bool), G9 x = some r → M9 x r := by
 refine G9.partial_correctness M9 ?_
 intro g ih x r hF
 cases x with
 | p1 width rows t86_ t87_ t88_ =>
  dsimp only at hF
  intro tm st hf hs
  refine en hf ?_
  refine lp ?_
  refine rn 1 rfl ?_
  refine ci hF rfl (fun c_24 hF => ?_) (fun c_24 hF => ?_)
  · obtain ⟨v_25, g_26, hF⟩ := bind_some hF
    refine rn 0 rfl ?_
    refine W.o (e_iaddrL (rd_V rfl) rfl g_26) ?_
    refine W.o (lND (s := c25 v_25) rfl rfl rfl) ?_
    refine al hs (cs := c25 ({ Text := [], Whole := false } : T25)) rfl fun st b_27 hs => ?_
    refine sr hs 0 rfl rfl rfl (cs' := c25 v_25) rfl rfl fun st hs => ?_
    refine rn 0 rfl ?_
    refine W.o (e_faddr rfl (hs.g 0 rfl)) ?_
    refine W.o (l1 rfl (hs.g 0 rfl) rfl) ?_
    refine rn 2 rfl ?_
    refine bi hF (fun c_28 hF => ?_) (fun c_28 hF => ?_)
    · refine wfx 95 rfl c_28 ?_
      refine rn 16 rfl ?_
      refine ct rfl rfl ?_
      refine rn 1 rfl ?_
      cases hF
      exact rD (rlt rl0) rfl
    · refine wfx 95 rfl c_28 ?_
      refine rn 3 rfl ?_
      refine bi hF (fun c_29 hF => ?_) (fun c_29 hF => ?_)
      · refine wfx 98 rfl c_29 ?_
        refine W.on rfl rfl ?_
        refine W.o (e_faddr rfl (hs.g 0 rfl)) ?_
        refine W.on rfl rfl ?_
        refine W.o (l1 rfl (hs.g 0 rfl) rfl) ?_
        refine rn 6 rfl ?_
        refine bi hF (fun c_30 hF => ?_) (fun c_30 hF => ?_)
        · refine wfx 106 rfl c_30 ?_
          refine rn 5 rfl ?_
          refine ct rfl rfl ?_
          refine rn 1 rfl ?_
          cases hF
          exact rD (rlt rl0) rfl
        · refine wfx 106 rfl c_30 ?_
          refine W.on rfl rfl ?_
          refine W.o (e_faddr rfl (hs.g 0 rfl)) ?_
          refine W.on rfl rfl ?_
          refine W.o (l1 rfl (hs.g 0 rfl) rfl) ?_
          refine rj 3 1 rfl ?_
          exact ih (.p2 width rows t86_ t87_ t88_ (((v_25.Text).length : Int) == 0) v_25) _ hF _ _ b_27 ⟨rfl, rfl, rfl, rfl, rfl, rfl, rfl, trivial⟩ hs
      · refine wfx 98 rfl c_29 ?_
        refine rn 8 rfl ?_
        refine W.on rfl rfl ?_
        refine W.o (e_faddr rfl (hs.g 0 rfl)) ?_
        refine W.on rfl rfl ?_
        refine W.o (l1 rfl (hs.g 0 rfl) rfl) ?_
        refine rj 3 1 rfl ?_
        exact ih (.p2 width rows t86_ t87_ t88_ (((v_25.Text).length : Int) == 0) v_25) _ hF _ _ b_27 ⟨rfl, rfl, rfl, rfl, rfl, rfl, rfl, trivial⟩ hs
  · refine rn 1 rfl ?_
    refine W.o (e_len (rd_V rfl)) ?_
    refine rn 2 rfl ?_
    refine bi hF (fun c_31 hF => ?_) (fun c_31 hF => ?_)
    · refine wfx 135 rfl c_31 ?_
      refine rn 3 rfl ?_
      refine bi hF (fun c_32 hF => ?_) (fun c_32 hF => ?_)
      · refine wfx 138 rfl c_32 ?_
        refine rn 6 rfl ?_
        cases hF
        exact rD (rlt rl0) rfl
      · refine wfx 138 rfl c_32 ?_
        refine rn 1 rfl ?_
        refine W.on rfl rfl ?_
        refine W.o (e_len (rd_V rfl)) ?_
        refine rn 4 rfl ?_
        cases hF
        exact rD (rlt rl0) rfl
    · refine wfx 135 rfl c_31 ?_
      refine rn 9 rfl ?_
      cases hF
      exact rD (rlt rl0) rfl
 | p2 width rows t86_ t87_ t88_ t111_ r_ =>
  dsimp only at hF
  intro tm st io0 hf hs
  refine en hf ?_
  refine ci hF rfl (fun c_33 hF => ?_) (fun c_33 hF => ?_)
  · refine rn 1 rfl ?_
    cases hF
    exact rD (rlt rl0) rfl
  · refine rn 1 rfl ?_
    exact ih (.p3 width rows 0 t86_ t87_ t88_ r_) _ hF _ _ io0 ⟨rfl, rfl, rfl, rfl, rfl, rfl, rfl, trivial⟩ hs
 | p3 width rows i t86_ t87_ t88_ r_ =>
  dsimp only at hF
  intro tm st io0 hf hs
  refine en hf ?_
  refine lp ?_
  refine rn 1 rfl ?_
  refine W.o (e_faddr rfl (hs.g 0 rfl)) ?_
  refine W.o (l1 rfl (hs.g 0 rfl) rfl) ?_
  refine rn 2 rfl ?_
  refine ci hF rfl (fun c_34 hF => ?_) (fun c_34 hF => ?_)
  · refine rn 0 rfl ?_
    refine W.o (e_faddr rfl (hs.g 0 rfl)) ?_
    refine W.o (l1 rfl (hs.g 0 rfl) rfl) ?_
    obtain ⟨b_35, g_36, hF⟩ := bind_some hF
    refine rn 1 rfl ?_
    refine W.o (e_ixS rfl rfl g_36) ?_
    refine rn 2 rfl ?_
    refine bi hF (fun c_37 hF => ?_) (fun c_37 hF => ?_)
    · refine wfx 124 rfl c_37 ?_
      refine rn 6 rfl ?_
      refine ct rfl rfl ?_
      refine rn 1 rfl ?_
      cases hF
      exact rD (rlt rl0) rfl
    · refine wfx 124 rfl c_37 ?_
      refine W.on rfl rfl ?_
      refine W.o (e_faddr rfl (hs.g 0 rfl)) ?_
      refine W.on rfl rfl ?_
      refine W.o (l1 rfl (hs.g 0 rfl) rfl) ?_
      obtain ⟨b_38, g_39, hF⟩ := bind_some hF
      refine rn 1 rfl ?_
      refine W.on rfl rfl ?_
      refine W.o (e_ixS rfl rfl g_39) ?_
      refine rn 2 rfl ?_
      refine ci hF rfl (fun c_40 hF => ?_) (fun c_40 hF => ?_)
      · refine rn 1 rfl ?_
        cases hF
        exact rD (rlt rl0) rfl
      · refine rn 3 rfl ?_
        exact ih (.p3 width rows (IntKind.wrap .i64 (i + 1)) t86_ t87_ t88_ r_) _ hF _ _ io0 ⟨rfl, rfl, rfl, rfl, rfl, rfl, rfl, trivial⟩ hs
  · refine rn 2 rfl ?_
    exact ih (.p1 width rows t86_ t87_ (IntKind.wrap .i64 (t88_ + 1))) _ hF _ _ ⟨rfl, rfl, rfl, rfl, rfl, trivial⟩ (hs.p 1 [] rfl)
noncomputable def F9 (s : Str) (width : Int) (t : Str) : Option Bool :=
 (F13 >>= fun r_1 =>
  (if (!r_1) = true then
   (some false)
  else
   (F26 s width >>= fun r_4 =>
    (if (decide (width < 0)) = true then
     (if (r_4.2 == 2) = true then
      (some (r_4.1 == ([] : Str)))
     else
      (some false))
    else
     (F28 r_4.1 >>= fun r_8 =>
      (F24 s >>= fun r_10 =>
       (if (r_10).length + (t).length ≤ 9223372036854775807 then
        (F22 (r_10 ++ t) >>= fun r_13 =>
         (if (r_4.2 != 0) = true then
          (some false)
         else
          (if (r_8.2.1 != 0) = true then
           (some false)
          else
           (if (r_8.2.2 != 0) = true then
            (some false)
           else
            (if (!(r_8.1 == s)) = true then
             (some false)
            else
             (if (r_13.2.2.1 != 0) = true then
              (some false)
             else
              (if (!(r_13.1 == s)) = true then
               (some false)
              else
               (if (r_13.2.1 != ((r_10).length : Int)) = true then
                (some false)
               else
                (F16 r_4.1 >>= fun r_22 =>
                 (G9 (.p1 width r_22 r_22 ((ls r_22).length : Int) 0)))))))))))
       else none)))))))
theorem d9 (s : Str) (width : Int) (t : Str) (r : Bool) (hF : F9 s width t = some r) : DFun Tryd.prog gE 9 [AV.str s, AV.int .i64 width, AV.str t] (AV.bool r) := by
 unfold F9 at hF
 refine bD k9 rfl ?_
 have hs : SH [] [] := SH.nil
 generalize ([] : Store) = st at hs ⊢
 obtain ⟨r_1, g_2, hF⟩ := bind_some hF
 refine rn 1 rfl ?_
 refine df (d13 _ g_2) rfl ?_
 refine rn 1 rfl ?_
 refine ci hF rfl (fun c_3 hF => ?_) (fun c_3 hF => ?_)
 · refine rn 1 rfl ?_
   cases hF
   exact rD (rlt rl0) rfl
 · obtain ⟨r_4, g_5, hF⟩ := bind_some hF
   refine rn 2 rfl ?_
   refine df (d26 s width _ g_5) rfl ?_
   refine rn 7 rfl ?_
   refine ci hF rfl (fun c_6 hF => ?_) (fun c_6 hF => ?_)
   · refine rn 3 rfl ?_
     refine bi hF (fun c_7 hF => ?_) (fun c_7 hF => ?_)
     · refine wfx 33 rfl c_7 ?_
       refine rn 4 rfl ?_
       cases hF
       exact rD (rlt rl0) rfl
     · refine wfx 33 rfl c_7 ?_
       refine rn 4 rfl ?_
       cases hF
       exact rD (rlt rl0) rfl
   · obtain ⟨r_8, g_9, hF⟩ := bind_some hF
     refine rn 1 rfl ?_
     refine df (d28 r_4.1 _ g_9) rfl ?_
     obtain ⟨r_10, g_11, hF⟩ := bind_some hF
     refine rn 8 rfl ?_
     refine df (d24 s _ g_11) rfl ?_
     obtain ⟨g_12, hF⟩ := grd_some hF
     refine rn 3 rfl ?_
     refine W.o (e_str rfl rfl (op_cat _ _ g_12)) ?_
     obtain ⟨r_13, g_14, hF⟩ := bind_some hF
     refine df (d22 (r_10 ++ t) _ g_14) rfl ?_
     refine rn 12 rfl ?_
     refine bi hF (fun c_15 hF => ?_) (fun c_15 hF => ?_)
     · refine wfx 56 rfl c_15 ?_
       refine rn 27 rfl ?_
       refine ct rfl rfl ?_
       refine rn 1 rfl ?_
       cases hF
       exact rD (rlt rl0) rfl
     · refine wfx 56 rfl c_15 ?_
       refine rn 4 rfl ?_
       refine bi hF (fun c_16 hF => ?_) (fun c_16 hF => ?_)
       · refine wfx 60 rfl c_16 ?_
         refine rn 23 rfl ?_
         refine ct rfl rfl ?_
         refine rn 1 rfl ?_
         cases hF
         exact rD (rlt rl0) rfl
       · refine wfx 60 rfl c_16 ?_
         refine rn 4 rfl ?_
         refine bi hF (fun c_17 hF => ?_) (fun c_17 hF => ?_)
         · refine wfx 64 rfl c_17 ?_
           refine rn 19 rfl ?_
           refine ct rfl rfl ?_
           refine rn 1 rfl ?_
           cases hF
           exact rD (rlt rl0) rfl
         · refine wfx 64 rfl c_17 ?_
           refine rn 5 rfl ?_
           refine bi hF (fun c_18 hF => ?_) (fun c_18 hF => ?_)
           · refine wfx 69 rfl c_18 ?_
             refine rn 14 rfl ?_
             refine ct rfl rfl ?_
             refine rn 1 rfl ?_
             cases hF
             exact rD (rlt rl0) rfl
           · refine wfx 69 rfl c_18 ?_
             refine rn 4 rfl ?_
             refine bi hF (fun c_19 hF => ?_) (fun c_19 hF => ?_)
             · refine wfx 73 rfl c_19 ?_
               refine rn 10 rfl ?_
               refine ct rfl rfl ?_
               refine rn 1 rfl ?_
               cases hF
               exact rD (rlt rl0) rfl
             · refine wfx 73 rfl c_19 ?_
               refine rn 5 rfl ?_
               refine bi hF (fun c_20 hF => ?_) (fun c_20 hF => ?_)
               · refine wfx 78 rfl c_20 ?_
                 refine rn 5 rfl ?_
                 refine ct rfl rfl ?_
                 refine rn 1 rfl ?_
                 cases hF
                 exact rD (rlt rl0) rfl
               · refine wfx 78 rfl c_20 ?_
                 refine rn 5 rfl ?_
                 refine ci hF rfl (fun c_21 hF => ?_) (fun c_21 hF => ?_)
                 · refine rn 1 rfl ?_
                   cases hF
                   exact rD (rlt rl0) rfl
                 · obtain ⟨r_22, g_23, hF⟩ := bind_some hF
                   refine rn 1 rfl ?_
                   refine df (dfun_own (fun st L K hs hK => d16 r_4.1 _ g_23 K L st hs hK)) rfl ?_
                   refine rn 2 rfl ?_
                   refine W.o (e_len (rd_V rfl)) ?_
                   refine rn 1 rfl ?_
                   exact w9 (.p1 width r_22 r_22 ((ls r_22).length : Int) 0) _ hF _ _ ⟨rfl, rfl, rfl, rfl, rfl, trivial⟩ hs
/-! ### 3: paddock/paddocklaw01.LinesOwn -/
def C3_30 : ACode := .ops [q 17 (.mv 3), q 18 (.mv 5), q 19 (.build [(.str []), (.bool false)] [(0, (1, (.c (.str [103, 111, 110, 101]))))]), q 20 (.iaddrL 2 17 18), q0 (.store 2 20 19)]
def C3_31 : ACode := .ops [q 21 (.binI .add 14 (ki 1)), q 14 (.mv 21)]
def C3_26 : ACode := .s (.block 1 (.s (.ops [q 16 (.mv 14), q 5 (.mv 16)]) C3_30)) C3_31
def C3_22 : ACode := .s (.cond 15 .skip (.exit 0)) C3_26
def C3_20 : ACode := .s (.ops [q 15 (.binI .lss 14 13)]) C3_22
def C3_18 : ACode := .block 0 (.loop C3_20)
def C3_34 : ACode := .s (.ops [q 27 (.mv 4), q 28 (.mv 0), qc 29 16 [28], qc 30 15 [27, 29], q 31 (.mv 30), (q 32 (.mv 0)).y 31, (qc 33 14 [32]).y 31, (q 34 (.mv 4)).y 31, (qc 35 15 [33, 34]).y 31, q 36 (.pick 31 35 (.c (.bool false))), q 37 (.mv 36), (q 38 (.mv 3)).y 37, (q 39 (.len 38)).y 37, (q 40 (.mv 4)).y 37, (q 41 (.len 40)).y 37, (q 42 (.binI .add 41 (ki 2))).y 37, (q 43 (.binI .eql 39 42)).y 37, q 44 (.pick 37 43 (.c (.bool false))), q 2 (.mv 44)]) .ret
def C3_32 : ACode := .s (.ops [q 22 (.mv 3), q 23 (.build [(.str []), (.bool false)] []), q 24 (.build [(.str []), (.bool false)] []), q 25 (.bslice 2 2 true [(.str []), (.bool false)] [(0, (2, 23)), (2, (2, 24))] false), q 26 (.app 2 24 22 25), q 3 (.mv 26)]) C3_34
def C3_15 : ACode := .s (.s (.ops [q 12 (.mv 3), q 13 (.len 12), q 14 (.mv (ki 0))]) C3_18) C3_32
def C3_13 : ACode := .s (.ops [q 10 (.mv 0), qc 11 14 [10], q 4 (.mv 11)]) C3_15
def C3_1 : ACode := .s (.ops [q 2 (.mv (.c (.bool false)))]) (.s (.s (.ops [qc 6 13 [], q 7 (.un .not 6)]) (.cond 7 (.s (.ops [q 2 (.mv (.c (.bool false)))]) .ret) .skip)) (.s (.ops [q 8 (.mv 0), qc 9 14 [8], q 3 (.mv 9)]) C3_13))
def R3 : List RA := [(.tmp 2)]
theorem k3 : compF Tryd.prog (muL []) 3 = some ⟨45, C3_1, R3⟩ := by kernel_rfl
noncomputable abbrev X3 (r : Bool) : Cx := cD Tryd.prog gE 45 R3 (AV.bool r)
inductive St3 where
 | p1 (s : Str) (a : Sl T25)
 | p2 (s : Str) (a : Rw T25)
 | p3 (s : Str) (b : Sl T25) (a : Sl T25)
 | p4 (s : Str) (b : Sl T25) (a : Rw T25)
 | p5 (s : Str) (b : Sl T25) (t13_ : Int) (t14_ : Int) (a : Sl T25)
 | p6 (s : Str) (b : Sl T25) (t13_ : Int) (t14_ : Int) (a : Rw T25)
 | p7 (s : Str) (b : Sl T25) (t13_ : Int) (t14_ : Int) (a : Sl T25)
 | p8 (s : Str) (b : Sl T25) (t13_ : Int) (t14_ : Int) (a : Rw T25)
 | p9 (s : Str) (b : Sl T25) (t13_ : Int) (t14_ : Int) (t15_ : Bool) (a : Sl T25)
 | p10 (s : Str) (b : Sl T25) (t13_ : Int) (t14_ : Int) (t15_ : Bool) (a : Rw T25)
 | p11 (s : Str) (b : Sl T25) (t13_ : Int) (t14_ : Int) (a : Sl T25)
 | p12 (s : Str) (b : Sl T25) (a : Sl T25)
 | p13 (s : Str) (b : Sl T25) (t13_ : Int) (t14_ : Int) (a : Rw T25)
 | p14 (s : Str) (b : Sl T25) (a : Rw T25)
 | p15 (s : Str) (b : Sl T25) (i : Int) (t13_ : Int) (t14_ : Int) (a : Sl T25)
 | p16 (s : Str) (b : Sl T25) (a : Sl T25)
 | p17 (s : Str) (b : Sl T25) (i : Int) (t13_ : Int) (t14_ : Int) (a : Rw T25)
noncomputable def G3 : St3 → Option Bool
 | .p1 s a =>
  (F14 s >>= fun r_8 =>
   (G3 (.p3 s r_8 a)))
 | .p2 s a =>
  (F14 s >>= fun r_10 =>
   (G3 (.p4 s r_10 a)))
 | .p3 s b a =>
  (G3 (.p5 s b ((ls a).length : Int) 0 a))
 | .p4 s b a =>
  (G3 (.p6 s b (a.n : Int) 0 a))
 | .p5 s b t13_ t14_ a =>
  (G3 (.p7 s b t13_ t14_ a))
 | .p6 s b t13_ t14_ a =>
  (G3 (.p8 s b t13_ t14_ a))
 | .p7 s b t13_ t14_ a =>
  (G3 (.p9 s b t13_ t14_ (decide (t14_ < t13_)) a))
 | .p8 s b t13_ t14_ a =>
  (G3 (.p10 s b t13_ t14_ (decide (t14_ < t13_)) a))
 | .p9 s b t13_ t14_ t15_ a =>
  (if t15_ = true then
   (G3 (.p11 s b t13_ t14_ a))
  else
   (G3 (.p12 s b a)))
 | .p10 s b t13_ t14_ t15_ a =>
  (if t15_ = true then
   (G3 (.p13 s b t13_ t14_ a))
  else
   (G3 (.p14 s b a)))
 | .p11 s b t13_ t14_ a =>
  (G3 (.p15 s b t14_ t13_ t14_ a))
 | .p12 s b a =>
  (if ((ls a).length + (ls (some ([({ Text := [], Whole := false } : T25), ({ Text := [], Whole := false } : T25)] : List T25))).length) * 24 ≤ 140737488355328 then
   (G3 (.p16 s b (sapp a (ls (some ([({ Text := [], Whole := false } : T25), ({ Text := [], Whole := false } : T25)] : List T25))))))
  else none)
 | .p13 s b t13_ t14_ a =>
  (G3 (.p17 s b t14_ t13_ t14_ a))
 | .p14 s b a =>
  (if (a.n + (ls (some ([({ Text := [], Whole := false } : T25), ({ Text := [], Whole := false } : T25)] : List T25))).length) * 24 ≤ 140737488355328 then
   (if a.l.length = a.n then
    (G3 (.p16 s b (some (a.l ++ (ls (some ([({ Text := [], Whole := false } : T25), ({ Text := [], Whole := false } : T25)] : List T25)))))))
   else none)
  else none)
 | .p15 s b i t13_ t14_ a =>
  (ix (ls a) i >>= fun v_21 =>
   (none : Option Bool))
 | .p16 s b a =>
  (F16 s >>= fun r_23 =>
   (F15 b r_23 >>= fun r_25 =>
    (if r_25 = true then
     (F14 s >>= fun r_28 =>
      (F15 r_28 b >>= fun r_30 =>
       (if r_30 = true then
        (some (((ls a).length : Int) == (IntKind.wrap .i64 (((ls b).length : Int) + 2))))
       else
        (some false))))
    else
     (some false))))
 | .p17 s b i t13_ t14_ a =>
  (if 0 ≤ i ∧ i < (a.n : Int) then
   (ix a.l i >>= fun y_34 =>
    (G3 (.p8 s b t13_ (IntKind.wrap .i64 (t14_ + 1)) (rset a i ({ Text := ([103, 111, 110, 101] : Str), Whole := false } : T25)))))
  else none)
 partial_fixpoint
def M3 (x : St3) (r : Bool) : Prop := match x with
 | .p1 s a => ∀ (tm : Fr) (st : Store) (io0 : Nat), Frm tm [(0, AV.str s), (3, ownV 2 v25 a io0)] → SH st [ownA io0 a] → W (X3 r) [.code C3_13] tm st
 | .p2 s a => ∀ (tm : Fr) (st : Store) (io0 : Nat), Frm tm [(0, AV.str s), (3, .row io0 2 0 a.n)] → SH st [pt io0 (.cells (rwC c25 a))] → W (X3 r) [.code C3_13] tm st
 | .p3 s b a => ∀ (tm : Fr) (st : Store) (io0 : Nat), Frm tm [(0, AV.str s), (3, ownV 2 v25 a io0), (4, slV 2 v25 b)] → SH st [ownA io0 a] → W (X3 r) [.code C3_15] tm st
 | .p4 s b a => ∀ (tm : Fr) (st : Store) (io0 : Nat), Frm tm [(0, AV.str s), (3, .row io0 2 0 a.n), (4, slV 2 v25 b)] → SH st [pt io0 (.cells (rwC c25 a))] → W (X3 r) [.code C3_15] tm st
 | .p5 s b t13_ t14_ a => ∀ (tm : Fr) (st : Store) (io0 : Nat), Frm tm [(0, AV.str s), (3, ownV 2 v25 a io0), (4, slV 2 v25 b), (13, AV.int .i64 t13_), (14, AV.int .i64 t14_)] → SH st [ownA io0 a] → W (X3 r) [.code C3_18, .code C3_32] tm st
 | .p6 s b t13_ t14_ a => ∀ (tm : Fr) (st : Store) (io0 : Nat), Frm tm [(0, AV.str s), (3, .row io0 2 0 a.n), (4, slV 2 v25 b), (13, AV.int .i64 t13_), (14, AV.int .i64 t14_)] → SH st [pt io0 (.cells (rwC c25 a))] → W (X3 r) [.code C3_18, .code C3_32] tm st
 | .p7 s b t13_ t14_ a => ∀ (tm : Fr) (st : Store) (io0 : Nat), Frm tm [(0, AV.str s), (3, ownV 2 v25 a io0), (4, slV 2 v25 b), (13, AV.int .i64 t13_), (14, AV.int .i64 t14_)] → SH st [ownA io0 a] → W (X3 r) [.lp C3_20, .blk 0, .code C3_32] tm st
 | .p8 s b t13_ t14_ a => ∀ (tm : Fr) (st : Store) (io0 : Nat), Frm tm [(0, AV.str s), (3, .row io0 2 0 a.n), (4, slV 2 v25 b), (13, AV.int .i64 t13_), (14, AV.int .i64 t14_)] → SH st [pt io0 (.cells (rwC c25 a))] → W (X3 r) [.lp C3_20, .blk 0, .code C3_32] tm st
 | .p9 s b t13_ t14_ t15_ a => ∀ (tm : Fr) (st : Store) (io0 : Nat), Frm tm [(0, AV.str s), (3, ownV 2 v25 a io0), (4, slV 2 v25 b), (13, AV.int .i64 t13_), (14, AV.int .i64 t14_), (15, AV.bool t15_)] → SH st [ownA io0 a] → W (X3 r) [.code C3_22, .lp C3_20, .blk 0, .code C3_32] tm st
 | .p10 s b t13_ t14_ t15_ a => ∀ (tm : Fr) (st : Store) (io0 : Nat), Frm tm [(0, AV.str s), (3, .row io0 2 0 a.n), (4, slV 2 v25 b), (13, AV.int .i64 t13_), (14, AV.int .i64 t14_), (15, AV.bool t15_)] → SH st [pt io0 (.cells (rwC c25 a))] → W (X3 r) [.code C3_22, .lp C3_20, .blk 0, .code C3_32] tm st
 | .p11 s b t13_ t14_ a => ∀ (tm : Fr) (st : Store) (io0 : Nat), Frm tm [(0, AV.str s), (3, ownV 2 v25 a io0), (4, slV 2 v25 b), (13, AV.int .i64 t13_), (14, AV.int .i64 t14_)] → SH st [ownA io0 a] → W (X3 r) [.code C3_26, .lp C3_20, .blk 0, .code C3_32] tm st
 | .p12 s b a => ∀ (tm : Fr) (st : Store) (io0 : Nat), Frm tm [(0, AV.str s), (3, ownV 2 v25 a io0), (4, slV 2 v25 b)] → SH st [ownA io0 a] → W (X3 r) [.code C3_32] tm st
 | .p13 s b t13_ t14_ a => ∀ (tm : Fr) (st : Store) (io0 : Nat), Frm tm [(0, AV.str s), (3, .row io0 2 0 a.n), (4, slV 2 v25 b), (13, AV.int .i64 t13_), (14, AV.int .i64 t14_)] → SH st [pt io0 (.cells (rwC c25 a))] → W (X3 r) [.code C3_26, .lp C3_20, .blk 0, .code C3_32] tm st
 | .p14 s b a => ∀ (tm : Fr) (st : Store) (io0 : Nat), Frm tm [(0, AV.str s), (3, .row io0 2 0 a.n), (4, slV 2 v25 b)] → SH st [pt io0 (.cells (rwC c25 a))] → W (X3 r) [.code C3_32] tm st
 | .p15 s b i t13_ t14_ a => ∀ (tm : Fr) (st : Store) (io0 : Nat), Frm tm [(0, AV.str s), (3, ownV 2 v25 a io0), (4, slV 2 v25 b), (5, AV.int .i64 i), (13, AV.int .i64 t13_), (14, AV.int .i64 t14_)] → SH st [ownA io0 a] → W (X3 r) [.code C3_30, .blk 1, .code C3_31, .lp C3_20, .blk 0, .code C3_32] tm st
 | .p16 s b a => ∀ (tm : Fr) (st : Store) (io0 : Nat), Frm tm [(0, AV.str s), (3, ownV 2 v25 a io0), (4, slV 2 v25 b)] → SH st [ownA io0 a] → W (X3 r) [.code C3_34] tm st
 | .p17 s b i t13_ t14_ a => ∀ (tm : Fr) (st : Store) (io0 : Nat), Frm tm [(0, AV.str s), (3, .row io0 2 0 a.n), (4, slV 2 v25 b), (5, AV.int .i64 i), (13, AV.int .i64 t13_), (14, AV.int .i64 t14_)] → SH st [pt io0 (.cells (rwC c25 a))] → W (X3 r) [.code C3_30, .blk 1, .code C3_31, .lp C3_20, .blk 0, .code C3_32] tm st
theorem w3 : ∀ (x : St3) (r : Bool), G3 x = some r → M3 x r := by
 refine G3.partial_correctness M3 ?_
 intro g ih x r hF
 cases x with
 | p1 s a =>
  dsimp only at hF
  intro tm st io0 hf hs
  refine en hf ?_
  obtain ⟨r_8, g_9, hF⟩ := bind_some hF
  refine rn 1 rfl ?_
  refine df (dfun_own (fun st L K hs hK => d14 s _ g_9 K L st hs hK)) rfl ?_
  refine rj 1 1 rfl ?_
  exact ih (.p3 s r_8 a) _ hF _ _ io0 ⟨rfl, rfl, rfl, trivial⟩ hs
 | p2 s a =>
  dsimp only at hF
  intro tm st io0 hf hs
  refine en hf ?_
  obtain ⟨r_10, g_11, hF⟩ := bind_some hF
  refine rn 1 rfl ?_
  refine df (dfun_own (fun st L K hs hK => d14 s _ g_11 K L st hs hK)) rfl ?_
  refine rj 1 1 rfl ?_
  exact ih (.p4 s r_10 a) _ hF _ _ io0 ⟨rfl, rfl, rfl, trivial⟩ hs
 | p3 s b a =>
  dsimp only at hF
  intro tm st io0 hf hs
  refine en hf ?_
  refine rn 1 rfl ?_
  refine W.o (e_len (rd_W (o := a) (id := io0) rfl)) ?_
  refine rj 1 1 rfl ?_
  exact ih (.p5 s b ((ls a).length : Int) 0 a) _ hF _ _ io0 ⟨rfl, rfl, rfl, rfl, rfl, trivial⟩ hs
 | p4 s b a =>
  dsimp only at hF
  intro tm st io0 hf hs
  refine en hf ?_
  refine rn 1 rfl ?_
  refine W.o (e_lenR rfl (hs.g 0 rfl)) ?_
  refine rj 1 1 rfl ?_
  exact ih (.p6 s b (a.n : Int) 0 a) _ hF _ _ io0 ⟨rfl, rfl, rfl, rfl, rfl, trivial⟩ hs
 | p5 s b t13_ t14_ a =>
  dsimp only at hF
  intro tm st io0 hf hs
  refine en hf ?_
  refine rn 0 rfl ?_
  exact ih (.p7 s b t13_ t14_ a) _ hF _ _ io0 ⟨rfl, rfl, rfl, rfl, rfl, trivial⟩ hs
 | p6 s b t13_ t14_ a =>
  dsimp only at hF
  intro tm st io0 hf hs
  refine en hf ?_
  refine rn 0 rfl ?_
  exact ih (.p8 s b t13_ t14_ a) _ hF _ _ io0 ⟨rfl, rfl, rfl, rfl, rfl, trivial⟩ hs
 | p7 s b t13_ t14_ a =>
  dsimp only at hF
  intro tm st io0 hf hs
  refine en hf ?_
  refine lp ?_
  refine rj 1 1 rfl ?_
  exact ih (.p9 s b t13_ t14_ (decide (t14_ < t13_)) a) _ hF _ _ io0 ⟨rfl, rfl, rfl, rfl, rfl, rfl, trivial⟩ hs
 | p8 s b t13_ t14_ a =>
  dsimp only at hF
  intro tm st io0 hf hs
  refine en hf ?_
  refine lp ?_
  refine rj 1 1 rfl ?_
  exact ih (.p10 s b t13_ t14_ (decide (t14_ < t13_)) a) _ hF _ _ io0 ⟨rfl, rfl, rfl, rfl, rfl, rfl, trivial⟩ hs
 | p9 s b t13_ t14_ t15_ a =>
  dsimp only at hF
  intro tm st io0 hf hs
  refine en hf ?_
  refine rn 0 rfl ?_
  refine ci hF rfl (fun c_12 hF => ?_) (fun c_12 hF => ?_)
  · refine rj 0 1 rfl ?_
    exact ih (.p11 s b t13_ t14_ a) _ hF _ _ io0 ⟨rfl, rfl, rfl, rfl, rfl, trivial⟩ hs
  · refine rj 0 1 rfl ?_
    exact ih (.p12 s b a) _ hF _ _ io0 ⟨rfl, rfl, rfl, trivial⟩ hs
 | p10 s b t13_ t14_ t15_ a =>
  dsimp only at hF
  intro tm st io0 hf hs
  refine en hf ?_
  refine rn 0 rfl ?_
  refine ci hF rfl (fun c_13 hF => ?_) (fun c_13 hF => ?_)
  · refine rj 0 1 rfl ?_
    exact ih (.p13 s b t13_ t14_ a) _ hF _ _ io0 ⟨rfl, rfl, rfl, rfl, rfl, trivial⟩ hs
  · refine rj 0 1 rfl ?_
    exact ih (.p14 s b a) _ hF _ _ io0 ⟨rfl, rfl, rfl, trivial⟩ hs
 | p11 s b t13_ t14_ a =>
  dsimp only at hF
  intro tm st io0 hf hs
  refine en hf ?_
  refine rj 2 1 rfl ?_
  exact ih (.p15 s b t14_ t13_ t14_ a) _ hF _ _ io0 ⟨rfl, rfl, rfl, rfl, rfl, rfl, trivial⟩ hs
 | p12 s b a =>
  dsimp only at hF
  intro tm st io0 hf hs
  refine en hf ?_
  refine rn 1 rfl ?_
  refine W.o (bR (cs := c25 ({ Text := [], Whole := false } : T25)) rfl rfl) ?_
  refine W.o (bR (cs := c25 ({ Text := [], Whole := false } : T25)) rfl rfl) ?_
  refine bs (f := v25) ([({ Text := [], Whole := false } : T25), ({ Text := [], Whole := false } : T25)] : List T25) hs rfl rfl rfl rfl fun st b_14 hs => ?_
  obtain ⟨g_15, hF⟩ := grd_some hF
  refine ap (ys := ls (some ([({ Text := [], Whole := false } : T25), ({ Text := [], Whole := false } : T25)] : List T25))) hs 1 rfl rfl (ae_rd (rd_W (o := (some ([({ Text := [], Whole := false } : T25), ({ Text := [], Whole := false } : T25)] : List T25))) (id := b_14) rfl)) g_15 (fun _ => rfl) fun st b_16 hs => ?_
  refine rj 1 1 rfl ?_
  exact ih (.p16 s b (sapp a (ls (some ([({ Text := [], Whole := false } : T25), ({ Text := [], Whole := false } : T25)] : List T25))))) _ hF _ _ b_16 ⟨rfl, rfl, rfl, trivial⟩ (hs.p 2 [1] rfl)
 | p13 s b t13_ t14_ a =>
  dsimp only at hF
  intro tm st io0 hf hs
  refine en hf ?_
  refine rj 2 1 rfl ?_
  exact ih (.p17 s b t14_ t13_ t14_ a) _ hF _ _ io0 ⟨rfl, rfl, rfl, rfl, rfl, rfl, trivial⟩ hs
 | p14 s b a =>
  dsimp only at hF
  intro tm st io0 hf hs
  refine en hf ?_
  refine rn 1 rfl ?_
  refine W.o (bR (cs := c25 ({ Text := [], Whole := false } : T25)) rfl rfl) ?_
  refine W.o (bR (cs := c25 ({ Text := [], Whole := false } : T25)) rfl rfl) ?_
  refine bs (f := v25) ([({ Text := [], Whole := false } : T25), ({ Text := [], Whole := false } : T25)] : List T25) hs rfl rfl rfl rfl fun st b_17 hs => ?_
  obtain ⟨g_18, hF⟩ := grd_some hF
  obtain ⟨g_19, hF⟩ := grd_some hF
  refine apR (f := v25) (c := c25) (a := a) (ys := ls (some ([({ Text := [], Whole := false } : T25), ({ Text := [], Whole := false } : T25)] : List T25))) hs 1 rfl rfl (ae_rd (rd_W (o := (some ([({ Text := [], Whole := false } : T25), ({ Text := [], Whole := false } : T25)] : List T25))) (id := b_17) rfl)) g_18 g_19 c25_len c25_one (fun _ => rfl) fun st b_20 hs => ?_
  refine rj 1 1 rfl ?_
  exact ih (.p16 s b (some (a.l ++ (ls (some ([({ Text := [], Whole := false } : T25), ({ Text := [], Whole := false } : T25)] : List T25)))))) _ hF _ _ b_20 ⟨rfl, rfl, rfl, trivial⟩ (hs.p 2 [0] rfl)
 | p15 s b i t13_ t14_ a =>
  dsimp only at hF
  intro tm st io0 hf hs
  refine en hf ?_
  refine rn 2 rfl ?_
  refine W.o (bR (cs := c25 ({ Text := ([103, 111, 110, 101] : Str), Whole := false } : T25)) rfl rfl) ?_
  obtain ⟨v_21, g_22, hF⟩ := bind_some hF
  refine W.o (e_iaddrL (rd_W (o := a) (id := io0) rfl) rfl g_22) ?_
  cases hF
 | p16 s b a =>
  dsimp only at hF
  intro tm st io0 hf hs
  refine en hf ?_
  obtain ⟨r_23, g_24, hF⟩ := bind_some hF
  refine rn 2 rfl ?_
  refine df (dfun_own (fun st L K hs hK => d16 s _ g_24 K L st hs hK)) rfl ?_
  obtain ⟨r_25, g_26, hF⟩ := bind_some hF
  refine df (d15 b r_23 _ g_26) rfl ?_
  refine rn 1 rfl ?_
  refine bi hF (fun c_27 hF => ?_) (fun c_27 hF => ?_)
  · refine wfx 31 rfl c_27 ?_
    obtain ⟨r_28, g_29, hF⟩ := bind_some hF
    refine rn 1 rfl ?_
    refine W.on rfl rfl ?_
    refine df (dfun_own (fun st L K hs hK => d14 s _ g_29 K L st hs hK)) rfl ?_
    obtain ⟨r_30, g_31, hF⟩ := bind_some hF
    refine rn 1 rfl ?_
    refine W.on rfl rfl ?_
    refine df (d15 r_28 b _ g_31) rfl ?_
    refine rn 2 rfl ?_
    refine bi hF (fun c_32 hF => ?_) (fun c_32 hF => ?_)
    · refine wfx 37 rfl c_32 ?_
      refine rn 1 rfl ?_
      refine W.on rfl rfl ?_
      refine W.o (e_len (rd_W (o := a) (id := io0) rfl)) ?_
      refine rn 1 rfl ?_
      refine W.on rfl rfl ?_
      refine W.o (e_len (rd_V rfl)) ?_
      refine rn 4 rfl ?_
      cases hF
      exact rD (rlt rl0) rfl
    · refine wfx 37 rfl c_32 ?_
      refine rn 8 rfl ?_
      cases hF
      exact rD (rlt rl0) rfl
  · refine wfx 31 rfl c_27 ?_
    refine rn 14 rfl ?_
    cases hF
    exact rD (rlt rl0) rfl
 | p17 s b i t13_ t14_ a =>
  dsimp only at hF
  intro tm st io0 hf hs
  refine en hf ?_
  refine rn 2 rfl ?_
  refine W.o (bR (cs := c25 ({ Text := ([103, 111, 110, 101] : Str), Whole := false } : T25)) rfl rfl) ?_
  obtain ⟨g_33, hF⟩ := grd_some hF
  refine W.o (e_iaddrR rfl (hs.g 0 rfl) rfl g_33) ?_
  obtain ⟨y_34, g_35, hF⟩ := bind_some hF
  refine sl hs 0 rfl rfl (LR.cast (LR.comp (LR.whole _ _) (lrR_set c25_len g_35 ({ Text := ([103, 111, 110, 101] : Str), Whole := false } : T25))) (by omega)) (c25_len _) rfl (c25_len _) (c25_one _) rfl fun st hs => ?_
  refine rn 2 rfl ?_
  exact ih (.p8 s b t13_ (IntKind.wrap .i64 (t14_ + 1)) (rset a i ({ Text := ([103, 111, 110, 101] : Str), Whole := false } : T25))) _ hF _ _ io0 ⟨rfl, rfl, rfl, rfl, rfl, trivial⟩ hs
noncomputable def F3 (s : Str) : Option Bool :=
 (F13 >>= fun r_1 =>
  (if (!r_1) = true then
   (some false)
  else
   (F14 s >>= fun r_4 =>
    (match r_4 with
     | none =>
      (G3 (.p1 s none))
     | some l_7 =>
      (G3 (.p2 s (Rw.mk l_7 l_7.length)))))))
theorem d3 (s : Str) (r : Bool) (hF : F3 s = some r) : DFun Tryd.prog gE 3 [AV.str s] (AV.bool r) := by
 unfold F3 at hF
 refine bD k3 rfl ?_
 have hs : SH [] [] := SH.nil
 generalize ([] : Store) = st at hs ⊢
 obtain ⟨r_1, g_2, hF⟩ := bind_some hF
 refine rn 1 rfl ?_
 refine df (d13 _ g_2) rfl ?_
 refine rn 1 rfl ?_
 refine ci hF rfl (fun c_3 hF => ?_) (fun c_3 hF => ?_)
 · refine rn 1 rfl ?_
   cases hF
   exact rD (rlt rl0) rfl
 · obtain ⟨r_4, g_5, hF⟩ := bind_some hF
   refine rn 1 rfl ?_
   rcases r_4 with _ | l_7
   · dsimp only at hF
     refine cl (ale rfl) (d14 s _ g_5 _ _ _ hs fun st b_6 hs => ?_)
     refine rj 1 1 rfl ?_
     exact w3 (.p1 s none) _ hF _ _ b_6 ⟨rfl, rfl, trivial⟩ hs
   · dsimp only at hF
     refine clR (es := 2) (g := v25) (c := c25) (m := l_7) (ds := [AV.str s]) (ale rfl) (inferInstance : DtL _).h (fun _ => rfl) (fun _ => rfl) (d14 s _ g_5) hs fun st b_6 hs => ?_
     refine rj 1 1 rfl ?_
     exact w3 (.p2 s (Rw.mk l_7 l_7.length)) _ hF _ _ b_6 ⟨rfl, rfl, trivial⟩ hs
end Go.Proofs.YtllhdbdbdblimaaDoor
