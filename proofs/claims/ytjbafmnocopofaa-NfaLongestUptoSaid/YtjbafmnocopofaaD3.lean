/-
  Functions of the program's as plain functions.
-/
import Derived.Test.YtjbafmnocopofaaD2
set_option linter.unusedVariables false
set_option maxRecDepth 4000
set_option maxHeartbeats 4000000
namespace Go.Proofs.Ytjbafmnocopofaa
open Go AW
attribute [local irreducible] W WD SH XS XLoop DFun XCall XYield
/-! ### 3: paddock/paddocklaw10.NfaSizes -/
def O3_17o1 : List AOp := (q 43 (.pick 39 (.c (.bool true)) 42)).y 25 :: (q 44 (.pick 25 43 (.c (.bool false)))).n 22 :: q 45 (.pick 22 (.c (.bool true)) 44) :: []
def O3_17o0 : List AOp := q 19 (.mv 4) :: q 20 (.mv 6) :: q 21 (.binI .neq 19 20) :: q 22 (.mv 21) :: (q 23 (.mv 4)).n 22 :: (q 24 (.binI .eql 23 (ki 0))).n 22 :: (q 25 (.mv 24)).n 22 :: (q 26 (.faddr 2 5)).y 25 :: (q 27 (.load1 26)).y 25 :: (q 28 (.len 27)).y 25 :: (q 29 (.mv 3)).y 25 :: (q 30 (.binI .neq 28 29)).y 25 :: (q 31 (.mv 30)).y 25 :: (q 32 (.mv 3)).n 31 :: (q 33 (.binI .lss 32 (ki 1))).n 31 :: (q 34 (.pick 31 (.c (.bool true)) 33)).y 25 :: (q 35 (.mv 34)).y 25 :: (q 36 (.mv 3)).n 35 :: (q 37 (.binI .gtr 36 (ki 16384))).n 35 :: (q 38 (.pick 35 (.c (.bool true)) 37)).y 25 :: (q 39 (.mv 38)).y 25 :: (q 40 (.loadN 3 5)).n 39 :: (qc 41 11 [40]).n 39 :: (q 42 (.un .not 41)).n 39 :: O3_17o1
def C3_23 : ACode := .s (.ops [q 46 (.mv 4), q 47 (.binI .eql 46 (ki 0)), q 48 (.mv 47), (q 49 (.faddr 2 5)).n 48, (q 50 (.load1 49)).n 48, (q 51 (.len 50)).n 48, (q 52 (.binI .eql 51 (ki 0))).n 48, (q 53 (.mv 52)).n 48, (q 54 (.mv 3)).y 53, (q 55 (.binI .eql 54 (ki 0))).y 53, (q 56 (.pick 53 55 (.c (.bool false)))).n 48, q 57 (.pick 48 (.c (.bool true)) 56), q 58 (.mv 57), (q 59 (.loadN 9 1)).y 58, (qc 60 12 [59]).y 58, (q 61 (.binI .eql 60 (ki 0))).y 58, (q 62 (.mv 61)).y 58, (q 63 (.mv 4)).n 62, (q 64 (.loadN 9 1)).n 62, (qc 65 12 [64]).n 62, (q 66 (.binI .eql 63 65)).n 62, (q 67 (.pick 62 (.c (.bool true)) 66)).y 58, q 68 (.pick 58 67 (.c (.bool false))), q 2 (.mv 68)]) .ret
def C3_1 : ACode := .s (.ops [q 1 (.boxD 9 0), q 2 (.mv (.c (.bool false)))]) (.s (.s (.ops [qc 7 8 [], q 8 (.un .not 7)]) (.cond 8 (.s (.ops [q 2 (.mv (.c (.bool false)))]) .ret) .skip)) (.s (.ops [q 10 (.loadN 9 1), qc 11 9 [10], q 9 (.mv 11), q 12 (.extract 9 0), q 13 (.extract 9 1), q 3 (.mv 12), q 4 (.mv 13)]) (.s (.ops [q 15 (.loadN 9 1), qc 16 10 [15], q 14 (.mv 16), q 17 (.extract 14 0), q 18 (.extract 14 1), q 5 (.alloc [(.int .i64 0), (.int .i64 0), .nils]), q0 (.store 3 5 17), q 6 (.mv 18)]) (.s (.s (.ops O3_17o0) (.cond 45 (.s (.ops [q 2 (.mv (.c (.bool false)))]) .ret) .skip)) C3_23))))
def R3 : List RA := [(.tmp 2)]
theorem k3 : compF Try.prog (muL [1]) 3 = some ⟨69, C3_1, R3⟩ := by kernel_rfl
noncomputable abbrev X3 (r : Bool) : Cx := cD Try.prog noG 69 R3 (AV.bool r) [1]
inductive St3 where
 | p1 (n : T27) (k : Int) (why : Int) (p : T34)
noncomputable def G3 : St3 → Option Bool
 | .p1 n k why p =>
  (if (why == 0) = true then
   (F12 n >>= fun r_18 =>
    (if (r_18 == 0) = true then
     (some true)
    else
     (F12 n >>= fun r_21 =>
      (some (why == r_21)))))
  else
   (if (((ls p.Code).length : Int) == 0) = true then
    (if (k == 0) = true then
     (F12 n >>= fun r_25 =>
      (if (r_25 == 0) = true then
       (some true)
      else
       (F12 n >>= fun r_28 =>
        (some (why == r_28)))))
    else
     (some false))
   else
    (some false)))
def M3 (x : St3) (r : Bool) : Prop := match x with
 | .p1 n k why p => ∀ (tm : Fr) (st : Store) (io0 : Nat), Frm tm [(1, .dptr (c27 n)), (3, AV.int .i64 k), (4, AV.int .i64 why), (5, .ptr io0 0)] → SH st [pt io0 (.cells (c34 p))] → W (X3 r) [.code C3_23] tm st
theorem w3 : ∀ (x : St3) (r : Bool), G3 x = some r → M3 x r := by
 intro x r hF
 cases x with
 | p1 n k why p =>
  dsimp only [G3] at hF
  intro tm st io0 hf hs
  refine en hf ?_
  refine rn 3 rfl ?_
  refine bi hF (fun c_17 hF => ?_) (fun c_17 hF => ?_)
  · refine wfx 48 rfl c_17 ?_
    refine rn 10 rfl ?_
    refine W.on rfl rfl ?_
    refine W.o (e_loadND rfl (DP.refl _) (c27_len _)) ?_
    obtain ⟨r_18, g_19, hF⟩ := bind_some hF
    refine W.on rfl rfl ?_
    refine df (d12 n _ g_19) rfl ?_
    refine rn 2 rfl ?_
    refine bi hF (fun c_20 hF => ?_) (fun c_20 hF => ?_)
    · refine wfx 62 rfl c_20 ?_
      refine rn 7 rfl ?_
      cases hF
      exact rD (rlt rl0) rfl
    · refine wfx 62 rfl c_20 ?_
      refine rn 1 rfl ?_
      refine W.on rfl rfl ?_
      refine W.o (e_loadND rfl (DP.refl _) (c27_len _)) ?_
      obtain ⟨r_21, g_22, hF⟩ := bind_some hF
      refine W.on rfl rfl ?_
      refine df (d12 n _ g_22) rfl ?_
      refine rn 4 rfl ?_
      cases hF
      exact rD (rlt rl0) rfl
  · refine wfx 48 rfl c_17 ?_
    refine W.on rfl rfl ?_
    refine W.o (e_faddr rfl (hs.g 0 rfl)) ?_
    refine W.on rfl rfl ?_
    refine W.o (l1 rfl (hs.g 0 rfl) rfl) ?_
    refine W.on rfl rfl ?_
    refine W.o (e_len (rd_V rfl)) ?_
    refine rn 2 rfl ?_
    refine bi hF (fun c_23 hF => ?_) (fun c_23 hF => ?_)
    · refine wfx 53 rfl c_23 ?_
      refine rn 5 rfl ?_
      refine bi hF (fun c_24 hF => ?_) (fun c_24 hF => ?_)
      · refine wfx 58 rfl c_24 ?_
        refine W.on rfl rfl ?_
        refine W.o (e_loadND rfl (DP.refl _) (c27_len _)) ?_
        obtain ⟨r_25, g_26, hF⟩ := bind_some hF
        refine W.on rfl rfl ?_
        refine df (d12 n _ g_26) rfl ?_
        refine rn 2 rfl ?_
        refine bi hF (fun c_27 hF => ?_) (fun c_27 hF => ?_)
        · refine wfx 62 rfl c_27 ?_
          refine rn 7 rfl ?_
          cases hF
          exact rD (rlt rl0) rfl
        · refine wfx 62 rfl c_27 ?_
          refine rn 1 rfl ?_
          refine W.on rfl rfl ?_
          refine W.o (e_loadND rfl (DP.refl _) (c27_len _)) ?_
          obtain ⟨r_28, g_29, hF⟩ := bind_some hF
          refine W.on rfl rfl ?_
          refine df (d12 n _ g_29) rfl ?_
          refine rn 4 rfl ?_
          cases hF
          exact rD (rlt rl0) rfl
      · refine wfx 58 rfl c_24 ?_
        refine rn 11 rfl ?_
        cases hF
        exact rD (rlt rl0) rfl
    · refine wfx 53 rfl c_23 ?_
      refine rn 16 rfl ?_
      cases hF
      exact rD (rlt rl0) rfl
noncomputable def F3 (n : T27) : Option Bool :=
 (F8 >>= fun r_1 =>
  (if (!r_1) = true then
   (some false)
  else
   (F9 n >>= fun r_4 =>
    (F10 n >>= fun r_6 =>
     (if (r_4.2 != r_6.2) = true then
      (some false)
     else
      (if (r_4.2 == 0) = true then
       (if (((ls r_6.1.Code).length : Int) != r_4.1) = true then
        (some false)
       else
        (if (decide (r_4.1 < 1)) = true then
         (some false)
        else
         (if (decide (r_4.1 > 16384)) = true then
          (some false)
         else
          (F11 r_6.1 >>= fun r_14 =>
           (if (!r_14) = true then
            (some false)
           else
            (G3 (.p1 n r_4.1 r_4.2 r_6.1)))))))
      else
       (G3 (.p1 n r_4.1 r_4.2 r_6.1))))))))
theorem d3 (n : T27) (r : Bool) (hF : F3 n = some r) : DFun Try.prog noG 3 [v27 n] (AV.bool r) := by
 unfold F3 at hF
 refine bD k3 rfl ?_
 have hs : SH [] [] := SH.nil
 generalize ([] : Store) = st at hs ⊢
 refine rn 0 rfl ?_
 refine W.o (e_boxD (cs := c27 n) rfl (by rw [c27_len]; rfl) (c27_one _)) ?_
 obtain ⟨r_1, g_2, hF⟩ := bind_some hF
 refine rn 1 rfl ?_
 refine df (d8 _ g_2) rfl ?_
 refine rn 1 rfl ?_
 refine ci hF rfl (fun c_3 hF => ?_) (fun c_3 hF => ?_)
 · refine rn 1 rfl ?_
   cases hF
   exact rD (rlt rl0) rfl
 · refine rn 0 rfl ?_
   refine W.o (e_loadND rfl (DP.refl _) (c27_len _)) ?_
   obtain ⟨r_4, g_5, hF⟩ := bind_some hF
   refine df (d9 n _ g_5) rfl ?_
   refine rn 5 rfl ?_
   refine W.o (e_loadND rfl (DP.refl _) (c27_len _)) ?_
   obtain ⟨r_6, g_7, hF⟩ := bind_some hF
   refine df (d10 n _ g_7) rfl ?_
   refine rn 3 rfl ?_
   refine al hs (cs := c34 ({ Groups := 0, Slots := 0, Code := none } : T34)) rfl fun st b_8 hs => ?_
   refine sl hs 0 rfl rfl (LR.whole _ _) (c34_len _) rfl (c34_len _) (c34_one _) rfl fun st hs => ?_
   refine rn 5 rfl ?_
   refine bi hF (fun c_9 hF => ?_) (fun c_9 hF => ?_)
   · refine wfx 22 rfl c_9 ?_
     refine rn 23 rfl ?_
     refine ct rfl rfl ?_
     refine rn 1 rfl ?_
     cases hF
     exact rD (rlt rl0) rfl
   · refine wfx 22 rfl c_9 ?_
     refine rn 3 rfl ?_
     refine bi hF (fun c_10 hF => ?_) (fun c_10 hF => ?_)
     · refine wfx 25 rfl c_10 ?_
       refine W.on rfl rfl ?_
       refine W.o (e_faddr rfl (hs.g 0 rfl)) ?_
       refine W.on rfl rfl ?_
       refine W.o (l1 rfl (hs.g 0 rfl) rfl) ?_
       refine W.on rfl rfl ?_
       refine W.o (e_len (rd_V rfl)) ?_
       refine rn 3 rfl ?_
       refine bi hF (fun c_11 hF => ?_) (fun c_11 hF => ?_)
       · refine wfx 31 rfl c_11 ?_
         refine rn 14 rfl ?_
         refine ct rfl rfl ?_
         refine rn 1 rfl ?_
         cases hF
         exact rD (rlt rl0) rfl
       · refine wfx 31 rfl c_11 ?_
         refine rn 4 rfl ?_
         refine bi hF (fun c_12 hF => ?_) (fun c_12 hF => ?_)
         · refine wfx 35 rfl c_12 ?_
           refine rn 10 rfl ?_
           refine ct rfl rfl ?_
           refine rn 1 rfl ?_
           cases hF
           exact rD (rlt rl0) rfl
         · refine wfx 35 rfl c_12 ?_
           refine rn 4 rfl ?_
           refine bi hF (fun c_13 hF => ?_) (fun c_13 hF => ?_)
           · refine wfx 39 rfl c_13 ?_
             refine rn 6 rfl ?_
             refine ct rfl rfl ?_
             refine rn 1 rfl ?_
             cases hF
             exact rD (rlt rl0) rfl
           · refine wfx 39 rfl c_13 ?_
             refine W.on rfl rfl ?_
             refine W.o (lN (s := c34 r_6.1) rfl (hs.g 0 rfl) rfl rfl) ?_
             obtain ⟨r_14, g_15, hF⟩ := bind_some hF
             refine W.on rfl rfl ?_
             refine df (d11 r_6.1 _ g_15) rfl ?_
             refine rn 4 rfl ?_
             refine ci hF rfl (fun c_16 hF => ?_) (fun c_16 hF => ?_)
             · refine rn 1 rfl ?_
               cases hF
               exact rD (rlt rl0) rfl
             · refine rj 0 1 rfl ?_
               exact w3 (.p1 n r_4.1 r_4.2 r_6.1) _ hF _ _ b_8 ⟨rfl, rfl, rfl, rfl, trivial⟩ hs
     · refine wfx 25 rfl c_10 ?_
       refine rn 20 rfl ?_
       refine cf rfl rfl ?_
       refine rj 0 1 rfl ?_
       exact w3 (.p1 n r_4.1 r_4.2 r_6.1) _ hF _ _ b_8 ⟨rfl, rfl, rfl, rfl, trivial⟩ hs
/-! ### 4: paddock/paddocklaw10.NfaParts -/
def C4_68 : ACode := .s (.s (.ops [q 117 (.mv 22), q 118 (.mv 20), q 119 (.len 118), q 120 (.binI .lss 117 119)]) (.cond 120 .skip (.exit 2))) (.s (.block 3 (.ops [q 123 (.mv 17), q 124 (.mv 20), q 125 (.mv 22), q 126 (.iaddrL 1 124 125), q 127 (.load1 126), q 128 (.iaddrL 1 123 127), q0 (.store 1 128 (.c (.bool true)))])) (.ops [q 121 (.mv 22), q 122 (.binI .add 121 (ki 1)), q 22 (.mv 122)]))
def C4_78 : ACode := .ops [q 97 (.mv 19), q 98 (.binI .add 97 (ki 1)), q 19 (.mv 98)]
def C4_44 : ACode := .s (.s (.ops [q 93 (.mv 19), q 94 (.mv 9), q 95 (.len 94), q 96 (.binI .lss 93 95)]) (.cond 96 .skip (.exit 0))) (.s (.block 1 (.s (.ops [q 99 (.mv 18), q 100 (.mv 9), q 101 (.mv 19), q 102 (.iaddrL 1 100 101), q 103 (.load1 102), q 104 (.iaddrL 1 99 103), q0 (.store 1 104 (.c (.bool true)))]) (.s (.draw [] 0 0 [q 106 (.loadN 9 5), q 107 (.mv 2), q 108 (.mv 9), q 109 (.mv 19), q 110 (.iaddrL 1 108 109), q 111 (.load1 110), qc 112 14 [106, 107, 111], q 105 (.mv 112), q 113 (.extract 105 0), q 114 (.extract 105 1), q 20 (.mv 113), q 21 (.mv 114)] []) (.s (.s (.ops [q 115 (.mv 21), q 116 (.un .not 115)]) (.cond 116 (.s (.ops [q 8 (.mv (.c (.bool false)))]) .ret) .skip)) (.s (.ops [q 22 (.mv (ki 0))]) (.block 2 (.loop C4_68))))))) C4_78)
def C4_40 : ACode := .s (.ops [q 19 (.mv (ki 0))]) (.block 0 (.loop C4_44))
def C4_84 : ACode := .s (.s (.ops [q 129 (.mv 23), q 130 (.mv 11), q 131 (.len 130), q 132 (.binI .lss 129 131)]) (.cond 132 .skip (.exit 4))) (.s (.block 5 (.ops [q 135 (.mv 18), q 136 (.mv 11), q 137 (.mv 23), q 138 (.iaddrL 1 136 137), q 139 (.load1 138), q 140 (.iaddrL 1 135 139), q0 (.store 1 140 (.c (.bool true)))])) (.ops [q 133 (.mv 23), q 134 (.binI .add 133 (ki 1)), q 23 (.mv 134)]))
def C4_114 : ACode := .cond 150 (.ops [q 151 (.mv 24), q 152 (.mv 26), q 153 (.bslice 1 1 false [(.int .i64 0)] [(0, (1, 152))] false), q 154 (.app 1 8 151 153), q 24 (.mv 154)]) .skip
def C4_119 : ACode := .cond 158 (.ops [q 159 (.mv 25), q 160 (.mv 26), q 161 (.bslice 1 1 false [(.int .i64 0)] [(0, (1, 160))] false), q 162 (.app 1 8 159 161), q 25 (.mv 162)]) .skip
def C4_117 : ACode := .s (.ops [q 155 (.mv 18), q 156 (.mv 26), q 157 (.iaddrL 1 155 156), q 158 (.load1 157)]) C4_119
def C4_122 : ACode := .ops [q 145 (.mv 26), q 146 (.binI .add 145 (ki 1)), q 26 (.mv 146)]
def C4_103 : ACode := .s (.s (.ops [q 141 (.mv 26), q 142 (.mv 2), q 143 (.lenS 142), q 144 (.binI .leq 141 143)]) (.cond 144 .skip (.exit 6))) (.s (.block 7 (.s (.s (.ops [q 147 (.mv 17), q 148 (.mv 26), q 149 (.iaddrL 1 147 148), q 150 (.load1 149)]) C4_114) C4_117)) C4_122)
def C4_123 : ACode := .s (.ops [q 163 (.mv 13), q 164 (.mv 24), qc 165 15 [163, 164], q 166 (.mv 165), (q 167 (.mv 15)).y 166, (q 168 (.mv 25)).y 166, (qc 169 15 [167, 168]).y 166, q 170 (.pick 166 169 (.c (.bool false))), q 8 (.mv 170)]) .ret
def C4_94 : ACode := .s (.ops [q 24 (.mv (.c .nils))]) (.s (.ops [q 25 (.mv (.c .nils))]) (.s (.s (.ops [q 26 (.mv (ki 0))]) (.block 6 (.loop C4_103))) C4_123))
def C4_79 : ACode := .s (.s (.ops [q 23 (.mv (ki 0))]) (.block 4 (.loop C4_84))) C4_94
def C4_1 : ACode := .s (.ops [q 4 (.boxD 9 0), q 5 (.boxD 9 1), q 8 (.mv (.c (.bool false)))]) (.s (.s (.ops [qc 27 8 [], q 28 (.un .not 27)]) (.cond 28 (.s (.ops [q 8 (.mv (.c (.bool false)))]) .ret) .skip)) (.s (.s (.ops [q 29 (.loadN 9 4), qc 30 13 [29], q 31 (.binI .gtr 30 (ki 0)), q 32 (.mv 31), (q 33 (.loadN 9 5)).n 32, (qc 34 13 [33]).n 32, (q 35 (.binI .gtr 34 (ki 0))).n 32, q 36 (.pick 32 (.c (.bool true)) 35)]) (.cond 36 (.s (.ops [q 8 (.mv (.c (.bool true)))]) .ret) .skip)) (.s (.ops [q 38 (.loadN 9 4), q 39 (.mv 2), q 40 (.mv 3), qc 41 14 [38, 39, 40], q 37 (.mv 41), q 42 (.extract 37 0), q 43 (.extract 37 1), q 9 (.mv 42), q 10 (.mv 43)]) (.s (.ops [q 45 (.loadN 9 5), q 46 (.mv 2), q 47 (.mv 3), qc 48 14 [45, 46, 47], q 44 (.mv 48), q 49 (.extract 44 0), q 50 (.extract 44 1), q 11 (.mv 49), q 12 (.mv 50)]) (.s (.ops [q 52 (.loadN 9 4), q 53 (.loadN 9 5), q 54 (.bslD 9 2 true [(.int .u8 0), (.int .u64 0), (.int .u64 0), (.int .u64 0), (.int .u64 0), (.int .i64 0), (.int .i64 0), (.int .i64 0), .nils] [(0, (9, 52)), (9, (9, 53))]), q 55 (.build [(.int .u8 0), (.int .u64 0), (.int .u64 0), (.int .u64 0), (.int .u64 0), (.int .i64 0), (.int .i64 0), (.int .i64 0), .nils] [(0, (1, (ku 3))), (8, (1, 54))]), q 56 (.mv 2), q 57 (.mv 3), qc 58 14 [55, 56, 57], q 51 (.mv 58), q 59 (.extract 51 0), q 60 (.extract 51 1), q 13 (.mv 59), q 14 (.mv 60)]) (.s (.ops [q 62 (.loadN 9 4), q 63 (.loadN 9 5), q 64 (.bslD 9 2 true [(.int .u8 0), (.int .u64 0), (.int .u64 0), (.int .u64 0), (.int .u64 0), (.int .i64 0), (.int .i64 0), (.int .i64 0), .nils] [(0, (9, 62)), (9, (9, 63))]), q 65 (.build [(.int .u8 0), (.int .u64 0), (.int .u64 0), (.int .u64 0), (.int .u64 0), (.int .i64 0), (.int .i64 0), (.int .i64 0), .nils] [(0, (1, (ku 4))), (8, (1, 64))]), q 66 (.mv 2), q 67 (.mv 3), qc 68 14 [65, 66, 67], q 61 (.mv 68), q 69 (.extract 61 0), q 70 (.extract 61 1), q 15 (.mv 69), q 16 (.mv 70)]) (.s (.s (.ops [q 71 (.mv 10), q 72 (.un .not 71), q 73 (.mv 72), (q 74 (.mv 12)).n 73, (q 75 (.un .not 74)).n 73, q 76 (.pick 73 (.c (.bool true)) 75), q 77 (.mv 76), (q 78 (.mv 14)).n 77, (q 79 (.un .not 78)).n 77, q 80 (.pick 77 (.c (.bool true)) 79), q 81 (.mv 80), (q 82 (.mv 16)).n 81, (q 83 (.un .not 82)).n 81, q 84 (.pick 81 (.c (.bool true)) 83)]) (.cond 84 (.s (.ops [q 8 (.mv (.c (.bool true)))]) .ret) .skip)) (.s (.ops [q 85 (.mv 2), q 86 (.lenS 85), q 87 (.binI .add 86 (ki 1)), q 88 (.mkslice 1 1 [(.bool false)] 87 87 true), q 17 (.mv 88)]) (.s (.ops [q 89 (.mv 2), q 90 (.lenS 89), q 91 (.binI .add 90 (ki 1)), q 92 (.mkslice 1 1 [(.bool false)] 91 91 true), q 18 (.mv 92)]) (.s C4_40 C4_79))))))))))
def R4 : List RA := [(.tmp 8)]
theorem k4 : compF Try.prog (muL [4, 5, 54, 64, 88, 92]) 4 = some ⟨171, C4_1, R4⟩ := by kernel_rfl
noncomputable abbrev X4 (r : Bool) : Cx := cD Try.prog noG 171 R4 (AV.bool r) [4, 5, 54, 64, 88, 92]
inductive St4 where
 | p1 (s : Str) (b : T27) (x_ : Sl Int) (y : Sl Int) (cat : Sl Int) (alt : Sl Int) (i : Int) (one : Sl Bool) (two : Sl Bool)
 | p2 (s : Str) (b : T27) (x_ : Sl Int) (y : Sl Int) (cat : Sl Int) (alt : Sl Int) (i : Int) (z : Sl Int) (k : Int) (one : Sl Bool) (two : Sl Bool)
 | p3 (s : Str) (y : Sl Int) (cat : Sl Int) (alt : Sl Int) (i : Int) (one : Sl Bool) (two : Sl Bool)
 | p4 (s : Str) (cat : Sl Int) (alt : Sl Int) (i : Int) (one : Sl Bool) (two : Sl Bool) (want : Sl Int) (either : Sl Int)
 | p5 (s : Str) (cat : Sl Int) (alt : Sl Int) (i : Int) (one : Sl Bool) (two : Sl Bool) (want : Sl Int) (either : Sl Int)
noncomputable def G4 : St4 → Option Bool
 | .p1 s b x_ y cat alt i one two =>
  (if (decide (i < ((ls x_).length : Int))) = true then
   (ix (ls x_) i >>= fun v_27 =>
    (ix (ls two) v_27 >>= fun v_29 =>
     (ix (ls x_) i >>= fun v_31 =>
      (F14 b s v_31 >>= fun r_33 =>
       (if (!r_33.2) = true then
        (some false)
       else
        (G4 (.p2 s b x_ y cat alt i r_33.1 0 one (vset two v_27 true))))))))
  else
   (G4 (.p3 s y cat alt 0 one two)))
 | .p2 s b x_ y cat alt i z k one two =>
  (if (decide (k < ((ls z).length : Int))) = true then
   (ix (ls z) k >>= fun v_37 =>
    (ix (ls one) v_37 >>= fun v_39 =>
     (G4 (.p2 s b x_ y cat alt i z (IntKind.wrap .i64 (k + 1)) (vset one v_37 true) two))))
  else
   (G4 (.p1 s b x_ y cat alt (IntKind.wrap .i64 (i + 1)) one two)))
 | .p3 s y cat alt i one two =>
  (if (decide (i < ((ls y).length : Int))) = true then
   (ix (ls y) i >>= fun v_42 =>
    (ix (ls two) v_42 >>= fun v_44 =>
     (G4 (.p3 s y cat alt (IntKind.wrap .i64 (i + 1)) one (vset two v_42 true)))))
  else
   (G4 (.p4 s cat alt 0 one two none none)))
 | .p4 s cat alt i one two want either =>
  (if (decide (i ≤ ((s).length : Int))) = true then
   (ix (ls one) i >>= fun v_49 =>
    (if v_49 = true then
     (if ((ls want).length + (ls (some ([i] : List Int))).length) * 8 ≤ 140737488355328 then
      (G4 (.p5 s cat alt i one two (sapp want (ls (some ([i] : List Int)))) either))
     else none)
    else
     (G4 (.p5 s cat alt i one two want either))))
  else
   (F15 cat want >>= fun r_55 =>
    (if r_55 = true then
     (F15 alt either >>= fun r_58 =>
      (some r_58))
    else
     (some false))))
 | .p5 s cat alt i one two want either =>
  (ix (ls two) i >>= fun v_60 =>
   (if v_60 = true then
    (if ((ls either).length + (ls (some ([i] : List Int))).length) * 8 ≤ 140737488355328 then
     (G4 (.p4 s cat alt (IntKind.wrap .i64 (i + 1)) one two want (sapp either (ls (some ([i] : List Int))))))
    else none)
   else
    (G4 (.p4 s cat alt (IntKind.wrap .i64 (i + 1)) one two want either))))
 partial_fixpoint
def M4 (x : St4) (r : Bool) : Prop := match x with
 | .p1 s b x_ y cat alt i one two => ∀ (tm : Fr) (st : Store) (io0 : Nat) (io1 : Nat), Frm tm [(2, AV.str s), (5, .dptr (c27 b)), (9, slV 1 (AV.int .i64) x_), (11, slV 1 (AV.int .i64) y), (13, slV 1 (AV.int .i64) cat), (15, slV 1 (AV.int .i64) alt), (17, rvV 1 one io0), (18, rvV 1 two io1), (19, AV.int .i64 i)] → SH st [rvA cB io0 one, rvA cB io1 two] → W (X4 r) [.lp C4_44, .blk 0, .code C4_79] tm st
 | .p2 s b x_ y cat alt i z k one two => ∀ (tm : Fr) (st : Store) (io0 : Nat) (io1 : Nat), Frm tm [(2, AV.str s), (5, .dptr (c27 b)), (9, slV 1 (AV.int .i64) x_), (11, slV 1 (AV.int .i64) y), (13, slV 1 (AV.int .i64) cat), (15, slV 1 (AV.int .i64) alt), (17, rvV 1 one io0), (18, rvV 1 two io1), (19, AV.int .i64 i), (20, slV 1 (AV.int .i64) z), (22, AV.int .i64 k)] → SH st [rvA cB io0 one, rvA cB io1 two] → W (X4 r) [.lp C4_68, .blk 2, .blk 1, .code C4_78, .lp C4_44, .blk 0, .code C4_79] tm st
 | .p3 s y cat alt i one two => ∀ (tm : Fr) (st : Store) (io0 : Nat) (io1 : Nat), Frm tm [(2, AV.str s), (11, slV 1 (AV.int .i64) y), (13, slV 1 (AV.int .i64) cat), (15, slV 1 (AV.int .i64) alt), (17, rvV 1 one io0), (18, rvV 1 two io1), (23, AV.int .i64 i)] → SH st [rvA cB io0 one, rvA cB io1 two] → W (X4 r) [.lp C4_84, .blk 4, .code C4_94] tm st
 | .p4 s cat alt i one two want either => ∀ (tm : Fr) (st : Store) (io0 : Nat) (io1 : Nat) (io2 : Nat) (io3 : Nat), Frm tm [(2, AV.str s), (13, slV 1 (AV.int .i64) cat), (15, slV 1 (AV.int .i64) alt), (17, rvV 1 one io0), (18, rvV 1 two io1), (24, ownV 1 (AV.int .i64) want io2), (25, ownV 1 (AV.int .i64) either io3), (26, AV.int .i64 i)] → SH st [rvA cB io0 one, rvA cB io1 two, ownA io2 want, ownA io3 either] → W (X4 r) [.lp C4_103, .blk 6, .code C4_123] tm st
 | .p5 s cat alt i one two want either => ∀ (tm : Fr) (st : Store) (io0 : Nat) (io1 : Nat) (io2 : Nat) (io3 : Nat), Frm tm [(2, AV.str s), (13, slV 1 (AV.int .i64) cat), (15, slV 1 (AV.int .i64) alt), (17, rvV 1 one io0), (18, rvV 1 two io1), (24, ownV 1 (AV.int .i64) want io2), (25, ownV 1 (AV.int .i64) either io3), (26, AV.int .i64 i)] → SH st [rvA cB io0 one, rvA cB io1 two, ownA io2 want, ownA io3 either] → W (X4 r) [.code C4_117, .blk 7, .code C4_122, .lp C4_103, .blk 6, .code C4_123] tm st
theorem w4 : ∀ (x : St4) (r : Bool), G4 x = some r → M4 x r := by
 refine G4.partial_correctness (M4) ?_
 intro g ih x r hF
 cases x with
 | p1 s b x_ y cat alt i one two =>
  dsimp only at hF
  intro tm st io0 io1 hf hs
  refine en hf ?_
  refine lp ?_
  refine rn 2 rfl ?_
  refine W.o (e_len (rd_V rfl)) ?_
  refine rn 1 rfl ?_
  refine ci hF rfl (fun c_26 hF => ?_) (fun c_26 hF => ?_)
  · obtain ⟨v_27, g_28, hF⟩ := bind_some hF
    refine rn 3 rfl ?_
    refine W.o (e_iaddrL (rd_V rfl) rfl g_28) ?_
    refine W.o (l1D rfl rfl) ?_
    obtain ⟨v_29, g_30, hF⟩ := bind_some hF
    refine W.o (e_iaddrV hs 1 rfl rfl rfl g_30) ?_
    refine slv hs 1 rfl rfl g_30 rfl (LR.cast (LR.comp (LR.whole _ _) (lrV_set cB_len g_30 true)) (by omega)) (cB_len _) rfl (cB_len _) (cB_one _) rfl fun st hs => ?_
    refine rn 0 rfl ?_
    have h0 := hs
    refine dr0 ?_
    refine de rfl (e_loadND rfl (DP.refl _) (c27_len _)) ?_
    obtain ⟨v_31, g_32, hF⟩ := bind_some hF
    refine dn 3 rfl ?_
    refine de rfl (e_iaddrL (rd_V rfl) rfl g_32) ?_
    refine de rfl (l1D rfl rfl) ?_
    obtain ⟨r_33, g_34, hF⟩ := bind_some hF
    refine ddf (d14 b s v_31 _ g_34) rfl ?_
    refine dn 5 rfl ?_
    refine dz ?_
    refine rn 2 rfl ?_
    refine ci hF rfl (fun c_35 hF => ?_) (fun c_35 hF => ?_)
    · refine rn 1 rfl ?_
      cases hF
      exact rD (rlt rl0) rfl
    · refine rn 1 rfl ?_
      exact ih (.p2 s b x_ y cat alt i r_33.1 0 one (vset two v_27 true)) _ hF _ _ io0 io1 ⟨rfl, rfl, rfl, rfl, rfl, rfl, rfl, (show rvV 1 two io1 = rvV 1 (vset two v_27 true) io1 by simp only [rvV_vset]), rfl, rfl, rfl, trivial⟩ hs
  · refine rn 1 rfl ?_
    exact ih (.p3 s y cat alt 0 one two) _ hF _ _ io0 io1 ⟨rfl, rfl, rfl, rfl, rfl, rfl, rfl, trivial⟩ hs
 | p2 s b x_ y cat alt i z k one two =>
  dsimp only at hF
  intro tm st io0 io1 hf hs
  refine en hf ?_
  refine lp ?_
  refine rn 2 rfl ?_
  refine W.o (e_len (rd_V rfl)) ?_
  refine rn 1 rfl ?_
  refine ci hF rfl (fun c_36 hF => ?_) (fun c_36 hF => ?_)
  · obtain ⟨v_37, g_38, hF⟩ := bind_some hF
    refine rn 3 rfl ?_
    refine W.o (e_iaddrL (rd_V rfl) rfl g_38) ?_
    refine W.o (l1D rfl rfl) ?_
    obtain ⟨v_39, g_40, hF⟩ := bind_some hF
    refine W.o (e_iaddrV hs 0 rfl rfl rfl g_40) ?_
    refine slv hs 0 rfl rfl g_40 rfl (LR.cast (LR.comp (LR.whole _ _) (lrV_set cB_len g_40 true)) (by omega)) (cB_len _) rfl (cB_len _) (cB_one _) rfl fun st hs => ?_
    refine rn 3 rfl ?_
    exact ih (.p2 s b x_ y cat alt i z (IntKind.wrap .i64 (k + 1)) (vset one v_37 true) two) _ hF _ _ io0 io1 ⟨rfl, rfl, rfl, rfl, rfl, rfl, (show rvV 1 one io0 = rvV 1 (vset one v_37 true) io0 by simp only [rvV_vset]), rfl, rfl, rfl, rfl, trivial⟩ hs
  · refine rn 3 rfl ?_
    exact ih (.p1 s b x_ y cat alt (IntKind.wrap .i64 (i + 1)) one two) _ hF _ _ io0 io1 ⟨rfl, rfl, rfl, rfl, rfl, rfl, rfl, rfl, rfl, trivial⟩ hs
 | p3 s y cat alt i one two =>
  dsimp only at hF
  intro tm st io0 io1 hf hs
  refine en hf ?_
  refine lp ?_
  refine rn 2 rfl ?_
  refine W.o (e_len (rd_V rfl)) ?_
  refine rn 1 rfl ?_
  refine ci hF rfl (fun c_41 hF => ?_) (fun c_41 hF => ?_)
  · obtain ⟨v_42, g_43, hF⟩ := bind_some hF
    refine rn 3 rfl ?_
    refine W.o (e_iaddrL (rd_V rfl) rfl g_43) ?_
    refine W.o (l1D rfl rfl) ?_
    obtain ⟨v_44, g_45, hF⟩ := bind_some hF
    refine W.o (e_iaddrV hs 1 rfl rfl rfl g_45) ?_
    refine slv hs 1 rfl rfl g_45 rfl (LR.cast (LR.comp (LR.whole _ _) (lrV_set cB_len g_45 true)) (by omega)) (cB_len _) rfl (cB_len _) (cB_one _) rfl fun st hs => ?_
    refine rn 3 rfl ?_
    exact ih (.p3 s y cat alt (IntKind.wrap .i64 (i + 1)) one (vset two v_42 true)) _ hF _ _ io0 io1 ⟨rfl, rfl, rfl, rfl, rfl, (show rvV 1 two io1 = rvV 1 (vset two v_42 true) io1 by simp only [rvV_vset]), rfl, trivial⟩ hs
  · refine rn 3 rfl ?_
    have hs := hs.ownNil Int
    have hs := hs.ownNil Int
    exact ih (.p4 s cat alt 0 one two none none) _ hF _ _ io0 io1 0 0 ⟨rfl, rfl, rfl, rfl, rfl, rfl, rfl, rfl, trivial⟩ (hs.p 4 [2, 2, 1, 0] rfl)
 | p4 s cat alt i one two want either =>
  dsimp only at hF
  intro tm st io0 io1 io2 io3 hf hs
  refine en hf ?_
  refine lp ?_
  refine rn 4 rfl ?_
  refine ci hF rfl (fun c_48 hF => ?_) (fun c_48 hF => ?_)
  · obtain ⟨v_49, g_50, hF⟩ := bind_some hF
    refine rn 2 rfl ?_
    refine W.o (e_iaddrV hs 0 rfl rfl rfl g_50) ?_
    refine W.o (e_load1 rfl (SH.gv hs 0 rfl g_50) (LR.cast (LR.comp (LR.whole _ _) (lrV_get cB_len g_50)) (by omega))) ?_
    refine rn 0 rfl ?_
    refine ci hF rfl (fun c_51 hF => ?_) (fun c_51 hF => ?_)
    · refine rn 2 rfl ?_
      refine bs (f := AV.int .i64) ([i] : List Int) hs rfl rfl rfl rfl fun st b_52 hs => ?_
      obtain ⟨g_53, hF⟩ := grd_some hF
      refine ap (ys := ls (some ([i] : List Int))) hs 3 rfl rfl (ae_rd (rd_W (o := (some ([i] : List Int))) (id := b_52) rfl)) g_53 (fun _ => rfl) fun st b_54 hs => ?_
      refine rj 1 1 rfl ?_
      exact ih (.p5 s cat alt i one two (sapp want (ls (some ([i] : List Int)))) either) _ hF _ _ io0 io1 b_54 io3 ⟨rfl, rfl, rfl, rfl, rfl, rfl, rfl, rfl, trivial⟩ (hs.p 5 [1, 1, 1, 1] rfl)
    · refine rj 0 1 rfl ?_
      exact ih (.p5 s cat alt i one two want either) _ hF _ _ io0 io1 io2 io3 ⟨rfl, rfl, rfl, rfl, rfl, rfl, rfl, rfl, trivial⟩ hs
  · obtain ⟨r_55, g_56, hF⟩ := bind_some hF
    refine rn 2 rfl ?_
    refine df' (d15 cat want _ g_56) (ds := [slV 1 (AV.int .i64) cat, slV 1 (AV.int .i64) want]) (dsl_cons (dsv (v := slV 1 (AV.int .i64) cat)) (dsl_cons (dsw (es := 1) (f := AV.int .i64) (o := want) (id := io2)) dsl_nil)) ?_
    refine rn 1 rfl ?_
    refine bi hF (fun c_57 hF => ?_) (fun c_57 hF => ?_)
    · refine wfx 166 rfl c_57 ?_
      obtain ⟨r_58, g_59, hF⟩ := bind_some hF
      refine rn 2 rfl ?_
      refine W.on rfl rfl ?_
      refine df' (d15 alt either _ g_59) (ds := [slV 1 (AV.int .i64) alt, slV 1 (AV.int .i64) either]) (dsl_cons (dsv (v := slV 1 (AV.int .i64) alt)) (dsl_cons (dsw (es := 1) (f := AV.int .i64) (o := either) (id := io3)) dsl_nil)) ?_
      refine rn 2 rfl ?_
      cases hF
      exact rD (rlt rl0) rfl
    · refine wfx 166 rfl c_57 ?_
      refine rn 5 rfl ?_
      cases hF
      exact rD (rlt rl0) rfl
 | p5 s cat alt i one two want either =>
  dsimp only at hF
  intro tm st io0 io1 io2 io3 hf hs
  refine en hf ?_
  obtain ⟨v_60, g_61, hF⟩ := bind_some hF
  refine rn 2 rfl ?_
  refine W.o (e_iaddrV hs 1 rfl rfl rfl g_61) ?_
  refine W.o (e_load1 rfl (SH.gv hs 1 rfl g_61) (LR.cast (LR.comp (LR.whole _ _) (lrV_get cB_len g_61)) (by omega))) ?_
  refine rn 0 rfl ?_
  refine ci hF rfl (fun c_62 hF => ?_) (fun c_62 hF => ?_)
  · refine rn 2 rfl ?_
    refine bs (f := AV.int .i64) ([i] : List Int) hs rfl rfl rfl rfl fun st b_63 hs => ?_
    obtain ⟨g_64, hF⟩ := grd_some hF
    refine ap (ys := ls (some ([i] : List Int))) hs 4 rfl rfl (ae_rd (rd_W (o := (some ([i] : List Int))) (id := b_63) rfl)) g_64 (fun _ => rfl) fun st b_65 hs => ?_
    refine rn 4 rfl ?_
    exact ih (.p4 s cat alt (IntKind.wrap .i64 (i + 1)) one two want (sapp either (ls (some ([i] : List Int))))) _ hF _ _ io0 io1 io2 b_65 ⟨rfl, rfl, rfl, rfl, rfl, rfl, rfl, rfl, trivial⟩ (hs.p 5 [1, 1, 1, 1] rfl)
  · refine rn 3 rfl ?_
    exact ih (.p4 s cat alt (IntKind.wrap .i64 (i + 1)) one two want either) _ hF _ _ io0 io1 io2 io3 ⟨rfl, rfl, rfl, rfl, rfl, rfl, rfl, rfl, trivial⟩ hs
noncomputable def F4 (a : T27) (b : T27) (s : Str) (from_ : Int) : Option Bool :=
 (F8 >>= fun r_1 =>
  (if (!r_1) = true then
   (some false)
  else
   (F13 a >>= fun r_4 =>
    (if (decide (r_4 > 0)) = true then
     (some true)
    else
     (F13 b >>= fun r_7 =>
      (if (decide (r_7 > 0)) = true then
       (some true)
      else
       (F14 a s from_ >>= fun r_10 =>
        (F14 b s from_ >>= fun r_12 =>
         (F14 ({ Kind := 3, Set := (Arr.rep 4 0), Min := 0, Max := 0, Group := 0, Kids := (some ([a, b] : List T27)) } : T27) s from_ >>= fun r_14 =>
          (F14 ({ Kind := 4, Set := (Arr.rep 4 0), Min := 0, Max := 0, Group := 0, Kids := (some ([a, b] : List T27)) } : T27) s from_ >>= fun r_16 =>
           (if (!r_10.2) = true then
            (some true)
           else
            (if (!r_12.2) = true then
             (some true)
            else
             (if (!r_14.2) = true then
              (some true)
             else
              (if (!r_16.2) = true then
               (some true)
              else
               (if 0 ≤ (IntKind.wrap .i64 (((s).length : Int) + 1)) ∧ (IntKind.wrap .i64 (((s).length : Int) + 1)) = (IntKind.wrap .i64 (((s).length : Int) + 1)) ∧ (1 : Int) * (IntKind.wrap .i64 (((s).length : Int) + 1)) ≤ 281474976710656 then
                (if 0 ≤ (IntKind.wrap .i64 (((s).length : Int) + 1)) ∧ (IntKind.wrap .i64 (((s).length : Int) + 1)) = (IntKind.wrap .i64 (((s).length : Int) + 1)) ∧ (1 : Int) * (IntKind.wrap .i64 (((s).length : Int) + 1)) ≤ 281474976710656 then
                 (G4 (.p1 s b r_10.1 r_12.1 r_14.1 r_16.1 0 (some (List.replicate (Int.toNat (IntKind.wrap .i64 (((s).length : Int) + 1))) (false : Bool))) (some (List.replicate (Int.toNat (IntKind.wrap .i64 (((s).length : Int) + 1))) (false : Bool)))))
                else none)
               else none)))))))))))))))
theorem d4 (a : T27) (b : T27) (s : Str) (from_ : Int) (r : Bool) (hF : F4 a b s from_ = some r) : DFun Try.prog noG 4 [v27 a, v27 b, AV.str s, AV.int .i64 from_] (AV.bool r) := by
 unfold F4 at hF
 refine bD k4 rfl ?_
 have hs : SH [] [] := SH.nil
 generalize ([] : Store) = st at hs ⊢
 refine rn 0 rfl ?_
 refine W.o (e_boxD (cs := c27 a) rfl (by rw [c27_len]; rfl) (c27_one _)) ?_
 refine W.o (e_boxD (cs := c27 b) rfl (by rw [c27_len]; rfl) (c27_one _)) ?_
 obtain ⟨r_1, g_2, hF⟩ := bind_some hF
 refine rn 1 rfl ?_
 refine df (d8 _ g_2) rfl ?_
 refine rn 1 rfl ?_
 refine ci hF rfl (fun c_3 hF => ?_) (fun c_3 hF => ?_)
 · refine rn 1 rfl ?_
   cases hF
   exact rD (rlt rl0) rfl
 · refine rn 0 rfl ?_
   refine W.o (e_loadND rfl (DP.refl _) (c27_len _)) ?_
   obtain ⟨r_4, g_5, hF⟩ := bind_some hF
   refine df (d13 a _ g_5) rfl ?_
   refine rn 2 rfl ?_
   refine bi hF (fun c_6 hF => ?_) (fun c_6 hF => ?_)
   · refine wfx 32 rfl c_6 ?_
     refine rn 4 rfl ?_
     refine ct rfl rfl ?_
     refine rn 1 rfl ?_
     cases hF
     exact rD (rlt rl0) rfl
   · refine wfx 32 rfl c_6 ?_
     refine W.on rfl rfl ?_
     refine W.o (e_loadND rfl (DP.refl _) (c27_len _)) ?_
     obtain ⟨r_7, g_8, hF⟩ := bind_some hF
     refine W.on rfl rfl ?_
     refine df (d13 b _ g_8) rfl ?_
     refine rn 2 rfl ?_
     refine ci hF rfl (fun c_9 hF => ?_) (fun c_9 hF => ?_)
     · refine rn 1 rfl ?_
       cases hF
       exact rD (rlt rl0) rfl
     · refine rn 0 rfl ?_
       refine W.o (e_loadND rfl (DP.refl _) (c27_len _)) ?_
       obtain ⟨r_10, g_11, hF⟩ := bind_some hF
       refine rn 2 rfl ?_
       refine df (d14 a s from_ _ g_11) rfl ?_
       refine rn 5 rfl ?_
       refine W.o (e_loadND rfl (DP.refl _) (c27_len _)) ?_
       obtain ⟨r_12, g_13, hF⟩ := bind_some hF
       refine rn 2 rfl ?_
       refine df (d14 b s from_ _ g_13) rfl ?_
       refine rn 5 rfl ?_
       refine W.o (e_loadND rfl (DP.refl _) (c27_len _)) ?_
       refine W.o (e_loadND rfl (DP.refl _) (c27_len _)) ?_
       refine W.o (e_bslG (f := v27) (c := c27) ([a, b] : List T27) (pk_cons (cs := c27 a) rfl rfl (c27_len _) (by decide) (pk_cons (cs := c27 b) rfl rfl (c27_len _) (by decide) pk_nil)) rfl rfl c27_len c27_one (fun _ => rfl) rfl) ?_
       refine W.o (e_build (z := [(.int .u8 0), (.int .u64 0), (.int .u64 0), (.int .u64 0), (.int .u64 0), (.int .i64 0), (.int .i64 0), (.int .i64 0), .nils]) (cs := c27 ({ Kind := 3, Set := (Arr.rep 4 0), Min := 0, Max := 0, Group := 0, Kids := (some ([a, b] : List T27)) } : T27)) (pk_cons (cs := cI .u8 3) rfl rfl ((cI_len .u8) _) (by decide) (pk_cons (cs := cSl 9 v27 (some ([a, b] : List T27))) (v := slV 9 v27 (some ([a, b] : List T27))) rfl slV_cells (cSl_len _) (by decide) pk_nil)) (show fillA (c27 ({ Kind := 0, Set := (Arr.rep 4 0), Min := 0, Max := 0, Group := 0, Kids := none } : T27)) _ = _ from (fl_cons (lr27_Kind ({ Kind := 0, Set := (Arr.rep 4 0), Min := 0, Max := 0, Group := 0, Kids := none } : T27) 3) (((cI_len .u8) _).trans ((cI_len .u8) _).symm) (fl_cons (lr27_Kids ({ Kind := 3, Set := (Arr.rep 4 0), Min := 0, Max := 0, Group := 0, Kids := none } : T27) (some ([a, b] : List T27))) ((cSl_len _).trans (cSl_len _).symm) (fl_nil _))))) ?_
       obtain ⟨r_14, g_15, hF⟩ := bind_some hF
       refine rn 2 rfl ?_
       refine df (d14 ({ Kind := 3, Set := (Arr.rep 4 0), Min := 0, Max := 0, Group := 0, Kids := (some ([a, b] : List T27)) } : T27) s from_ _ g_15) rfl ?_
       refine rn 5 rfl ?_
       refine W.o (e_loadND rfl (DP.refl _) (c27_len _)) ?_
       refine W.o (e_loadND rfl (DP.refl _) (c27_len _)) ?_
       refine W.o (e_bslG (f := v27) (c := c27) ([a, b] : List T27) (pk_cons (cs := c27 a) rfl rfl (c27_len _) (by decide) (pk_cons (cs := c27 b) rfl rfl (c27_len _) (by decide) pk_nil)) rfl rfl c27_len c27_one (fun _ => rfl) rfl) ?_
       refine W.o (e_build (z := [(.int .u8 0), (.int .u64 0), (.int .u64 0), (.int .u64 0), (.int .u64 0), (.int .i64 0), (.int .i64 0), (.int .i64 0), .nils]) (cs := c27 ({ Kind := 4, Set := (Arr.rep 4 0), Min := 0, Max := 0, Group := 0, Kids := (some ([a, b] : List T27)) } : T27)) (pk_cons (cs := cI .u8 4) rfl rfl ((cI_len .u8) _) (by decide) (pk_cons (cs := cSl 9 v27 (some ([a, b] : List T27))) (v := slV 9 v27 (some ([a, b] : List T27))) rfl slV_cells (cSl_len _) (by decide) pk_nil)) (show fillA (c27 ({ Kind := 0, Set := (Arr.rep 4 0), Min := 0, Max := 0, Group := 0, Kids := none } : T27)) _ = _ from (fl_cons (lr27_Kind ({ Kind := 0, Set := (Arr.rep 4 0), Min := 0, Max := 0, Group := 0, Kids := none } : T27) 4) (((cI_len .u8) _).trans ((cI_len .u8) _).symm) (fl_cons (lr27_Kids ({ Kind := 4, Set := (Arr.rep 4 0), Min := 0, Max := 0, Group := 0, Kids := none } : T27) (some ([a, b] : List T27))) ((cSl_len _).trans (cSl_len _).symm) (fl_nil _))))) ?_
       obtain ⟨r_16, g_17, hF⟩ := bind_some hF
       refine rn 2 rfl ?_
       refine df (d14 ({ Kind := 4, Set := (Arr.rep 4 0), Min := 0, Max := 0, Group := 0, Kids := (some ([a, b] : List T27)) } : T27) s from_ _ g_17) rfl ?_
       refine rn 8 rfl ?_
       refine bi hF (fun c_18 hF => ?_) (fun c_18 hF => ?_)
       · refine wfx 73 rfl c_18 ?_
         refine rn 11 rfl ?_
         refine ct rfl rfl ?_
         refine rn 1 rfl ?_
         cases hF
         exact rD (rlt rl0) rfl
       · refine wfx 73 rfl c_18 ?_
         refine rn 4 rfl ?_
         refine bi hF (fun c_19 hF => ?_) (fun c_19 hF => ?_)
         · refine wfx 77 rfl c_19 ?_
           refine rn 7 rfl ?_
           refine ct rfl rfl ?_
           refine rn 1 rfl ?_
           cases hF
           exact rD (rlt rl0) rfl
         · refine wfx 77 rfl c_19 ?_
           refine rn 4 rfl ?_
           refine bi hF (fun c_20 hF => ?_) (fun c_20 hF => ?_)
           · refine wfx 81 rfl c_20 ?_
             refine rn 3 rfl ?_
             refine ct rfl rfl ?_
             refine rn 1 rfl ?_
             cases hF
             exact rD (rlt rl0) rfl
           · refine wfx 81 rfl c_20 ?_
             refine rn 3 rfl ?_
             refine ci hF rfl (fun c_21 hF => ?_) (fun c_21 hF => ?_)
             · refine rn 1 rfl ?_
               cases hF
               exact rD (rlt rl0) rfl
             · obtain ⟨g_23, hF⟩ := grd_some hF
               refine rn 3 rfl ?_
               refine mkV (c := cB) (false : Bool) hs rfl rfl rfl g_23 fun st b_22 hs => ?_
               obtain ⟨g_25, hF⟩ := grd_some hF
               refine rn 4 rfl ?_
               refine mkV (c := cB) (false : Bool) hs rfl rfl rfl g_25 fun st b_24 hs => ?_
               refine rn 2 rfl ?_
               exact w4 (.p1 s b r_10.1 r_12.1 r_14.1 r_16.1 0 (some (List.replicate (Int.toNat (IntKind.wrap .i64 (((s).length : Int) + 1))) (false : Bool))) (some (List.replicate (Int.toNat (IntKind.wrap .i64 (((s).length : Int) + 1))) (false : Bool)))) _ hF _ _ b_22 b_24 ⟨rfl, rfl, rfl, rfl, rfl, rfl, rfl, rfl, rfl, trivial⟩ (hs.p 2 [1, 0] rfl)
/-! ### 5: paddock/paddocklaw10.NfaOwn -/
def C5_33 : ACode := .s (.ops [q 4 (.mv (.c (.bool false)))]) .ret
def C5_40 : ACode := .s (.ops [q 13 (.mv (ki 0))]) (.block 0 (.loop (.s (.s (.ops [q 48 (.mv 13), q 49 (.mv 11), q 50 (.len 49), q 51 (.binI .lss 48 50)]) (.cond 51 .skip (.exit 0))) (.s (.block 1 (.ops [q 54 (.mv 12), q 55 (.mv 11), q 56 (.mv 13), q 57 (.iaddrL 1 55 56), q 58 (.load1 57), q 59 (.bslice 1 1 false [(.int .i64 0)] [(0, (1, 58))] false), q 60 (.app 1 8 54 59), q 12 (.mv 60)])) (.ops [q 52 (.mv 13), q 53 (.binI .add 52 (ki 1)), q 13 (.mv 53)])))))
def C5_54 : ACode := .s (.s (.ops [q 14 (.mv (ki 0))]) (.block 2 (.loop (.s (.s (.ops [q 61 (.mv 14), q 62 (.faddr 2 5), q 63 (.load1 62), q 64 (.len 63), q 65 (.binI .lss 61 64)]) (.cond 65 .skip (.exit 2))) (.s (.block 3 (.ops [q 68 (.faddr 2 5), q 69 (.load1 68), q 70 (.mv 14), q 71 (.build [(.int .u8 0), (.int .u64 0), (.int .u64 0), (.int .u64 0), (.int .u64 0), (.int .i64 0), (.int .i64 0), (.int .i64 0), (.int .i64 0)] []), q 72 (.iaddrL 9 69 70), q0 (.store 9 72 71)])) (.ops [q 66 (.mv 14), q 67 (.binI .add 66 (ki 1)), q 14 (.mv 67)])))))) (.s (.s (.ops [q 15 (.mv (ki 0))]) (.block 4 (.loop (.s (.s (.ops [q 73 (.mv 15), q 74 (.mv 10), q 75 (.len 74), q 76 (.binI .lss 73 75)]) (.cond 76 .skip (.exit 4))) (.s (.block 5 (.ops [q 79 (.mv 10), q 80 (.mv 15), q 81 (.iaddrL 1 79 80), q0 (.store 1 81 (ki (-1)))])) (.ops [q 77 (.mv 15), q 78 (.binI .add 77 (ki 1)), q 15 (.mv 78)])))))) (.s (.ops [q 82 (.faddr 2 5), q 83 (.load1 82), q 84 (.build [(.int .u8 0), (.int .u64 0), (.int .u64 0), (.int .u64 0), (.int .u64 0), (.int .i64 0), (.int .i64 0), (.int .i64 0), (.int .i64 0)] []), q 85 (.build [(.int .u8 0), (.int .u64 0), (.int .u64 0), (.int .u64 0), (.int .u64 0), (.int .i64 0), (.int .i64 0), (.int .i64 0), (.int .i64 0)] []), q 86 (.bslice 9 2 true [(.int .u8 0), (.int .u64 0), (.int .u64 0), (.int .u64 0), (.int .u64 0), (.int .i64 0), (.int .i64 0), (.int .i64 0), (.int .i64 0)] [(0, (9, 84)), (9, (9, 85))] false), q 87 (.appR 9 72 83 86), q 88 (.faddr 2 5), q0 (.store 1 88 87)]) (.s (.ops [q 89 (.mv 10), q 90 (.bslice 1 2 false [(.int .i64 0)] [(0, (1, (ki (-2)))), (1, (1, (ki (-2))))] false), q 91 (.appR 1 8 89 90), q 10 (.mv 91)]) (.s (.ops [q 92 (.loadN 3 7), q 93 (.loadN 3 9), qc 94 18 [92, 93], q 95 (.mv 94), (q 96 (.mv 11)).y 95, (q 97 (.mv 12)).y 95, (qc 98 15 [96, 97]).y 95, q 99 (.pick 95 98 (.c (.bool false))), q 100 (.mv 99), (q 101 (.mv 10)).y 100, (q 102 (.mv 10)).y 100, (q 103 (.len 102)).y 100, (q 104 (.binI .sub 103 (ki 1))).y 100, (q 105 (.iaddrL 1 101 104)).y 100, (q 106 (.load1 105)).y 100, (q 107 (.binI .eql 106 (ki (-2)))).y 100, q 108 (.pick 100 107 (.c (.bool false))), q 4 (.mv 108)]) .ret))))
def C5_1 : ACode := .s (.ops [q 2 (.boxD 9 0), q 4 (.mv (.c (.bool false)))]) (.s (.s (.ops [qc 16 8 [], q 17 (.un .not 16)]) (.cond 17 (.s (.ops [q 4 (.mv (.c (.bool false)))]) .ret) .skip)) (.s (.ops [q 19 (.loadN 9 2), qc 20 10 [19], q 18 (.mv 20), q 21 (.extract 18 0), q 22 (.extract 18 1), q 5 (.alloc [(.int .i64 0), (.int .i64 0), .nils]), q0 (.store 3 5 21), q 6 (.mv 22)]) (.s (.ops [q 24 (.loadN 9 2), qc 25 10 [24], q 23 (.mv 25), q 26 (.extract 23 0), q 27 (.extract 23 1), q 7 (.alloc [(.int .i64 0), (.int .i64 0), .nils]), q0 (.store 3 7 26), q 8 (.mv 27)]) (.s (.s (.ops [q 28 (.mv 6), q 29 (.mv 8), q 30 (.binI .neq 28 29)]) (.cond 30 (.s (.ops [q 4 (.mv (.c (.bool false)))]) .ret) .skip)) (.s (.ops [q 31 (.loadN 3 7), qc 32 16 [31], q 9 (.alloc [(.int .i64 0), (.int .i64 0), .nils]), q0 (.store 3 9 32)]) (.s (.ops [q 34 (.loadN 3 7), q 35 (.mv 1), qc 36 17 [34, 35, (ki 0)], q 33 (.mv 36), q 37 (.extract 33 0), q 38 (.extract 33 1), q 10 (.mv 37), q 6 (.mv 38)]) (.s (.ops [q 40 (.loadN 3 7), q 41 (.mv 1), qc 42 17 [40, 41, (ki 0)], q 39 (.mv 42), q 43 (.extract 39 0), q 44 (.extract 39 1), q 11 (.mv 43), q 8 (.mv 44)]) (.s (.s (.ops [q 45 (.mv 6), q 46 (.mv 8), q 47 (.binI .neq 45 46)]) (.cond 47 C5_33 .skip)) (.s (.ops [q 12 (.mv (.c .nils))]) (.s C5_40 C5_54))))))))))
def R5 : List RA := [(.tmp 4)]
theorem k5 : compF Try.prog (muL [2, 87, 91]) 5 = some ⟨109, C5_1, R5⟩ := by kernel_rfl
noncomputable abbrev X5 (r : Bool) : Cx := cD Try.prog noG 109 R5 (AV.bool r) [2, 87, 91]
noncomputable def F5 (n : T27) (s : Str) : Option Bool :=
 (F8 >>= fun r_1 =>
  (if (!r_1) = true then
   (some false)
  else
   (F10 n >>= fun r_4 =>
    (none : Option Bool))))
theorem d5 (n : T27) (s : Str) (r : Bool) (hF : F5 n s = some r) : DFun Try.prog noG 5 [v27 n, AV.str s] (AV.bool r) := by
 unfold F5 at hF
 refine bD k5 rfl ?_
 have hs : SH [] [] := SH.nil
 generalize ([] : Store) = st at hs ⊢
 refine rn 0 rfl ?_
 refine W.o (e_boxD (cs := c27 n) rfl (by rw [c27_len]; rfl) (c27_one _)) ?_
 obtain ⟨r_1, g_2, hF⟩ := bind_some hF
 refine rn 1 rfl ?_
 refine df (d8 _ g_2) rfl ?_
 refine rn 1 rfl ?_
 refine ci hF rfl (fun c_3 hF => ?_) (fun c_3 hF => ?_)
 · refine rn 1 rfl ?_
   cases hF
   exact rD (rlt rl0) rfl
 · refine rn 0 rfl ?_
   refine W.o (e_loadND rfl (DP.refl _) (c27_len _)) ?_
   obtain ⟨r_4, g_5, hF⟩ := bind_some hF
   refine df (d10 n _ g_5) rfl ?_
   have hs := hs.rvNil (α := T52) c52
   refine rn 3 rfl ?_
   refine al hs (cs := (cI .i64) (({ Groups := 0, Slots := 0, Code := none } : T34).Groups) ++ ((cI .i64) (({ Groups := 0, Slots := 0, Code := none } : T34).Slots) ++ ([rvV 9 (none : Sl T52) 0]))) rfl fun st b_6 hs => ?_
   cases hF
/-! ### 6: paddock/paddocklaw10.NfaRuns -/
def C6_33 : ACode := .s (.ops [q 6 (.mv (.c (.bool false)))]) .ret
def C6_41 : ACode := .s (.ops [q 90 (.loadN 2 14), q 91 (.loadN 2 16), q 92 (.eqA false [.i, .i] 90 91), q 93 (.mv 92), (q 94 (.mv 15)).y 93, (q 95 (.mv 17)).y 93, (q 96 (.eqB false 94 95)).y 93, q 97 (.pick 93 96 (.c (.bool false))), q 98 (.mv 97), (q 99 (.mv 9)).y 98, (q 100 (.mv 11)).y 98, (q 101 (.binI .eql 99 100)).y 98, q 102 (.pick 98 101 (.c (.bool false))), q 103 (.mv 102), (q 104 (.loadN 3 7)).y 103, (q 105 (.loadN 3 3)).y 103, (qc 106 18 [104, 105]).y 103, q 107 (.pick 103 106 (.c (.bool false))), q 108 (.mv 107), (qc 109 8 []).y 108, q 110 (.pick 108 109 (.c (.bool false))), q 6 (.mv 110)]) .ret
def C6_1 : ACode := .s (.ops [q 3 (.boxD 3 0), q 5 (.boxD 2 2), q 6 (.mv (.c (.bool false)))]) (.s (.ops [q 18 (.loadN 3 3), qc 19 16 [18], q 7 (.alloc [(.int .i64 0), (.int .i64 0), .nils]), q0 (.store 3 7 19)]) (.s (.s (.draw [] 0 0 [q 20 (.loadN 3 7), q 22 (.loadN 3 3), qc 21 11 [20], qc 23 19 [22], q 24 (.eqB true 21 23)] []) (.cond 24 (.s (.ops [q 6 (.mv (.c (.bool false)))]) .ret) .skip)) (.s (.ops [q 26 (.loadN 3 7), q 27 (.mv 1), q 28 (.faddr 0 5), q 29 (.load1 28), qc 30 17 [26, 27, 29], q 25 (.mv 30), q 31 (.extract 25 0), q 32 (.extract 25 1), q 8 (.mv 31), q 9 (.mv 32)]) (.s (.ops [q 34 (.loadN 3 3), q 35 (.mv 1), q 36 (.faddr 0 5), q 37 (.load1 36), qc 38 20 [34, 35, 37], q 33 (.mv 38), q 39 (.extract 33 0), q 40 (.extract 33 1), q 10 (.mv 39), q 11 (.mv 40)]) (.s (.s (.ops [q 41 (.mv 8), q 42 (.mv 10), qc 43 15 [41, 42], q 44 (.un .not 43), q 45 (.mv 44), (q 46 (.mv 9)).n 45, (q 47 (.mv 11)).n 45, (q 48 (.binI .neq 46 47)).n 45, q 49 (.pick 45 (.c (.bool true)) 48)]) (.cond 49 (.s (.ops [q 6 (.mv (.c (.bool false)))]) .ret) .skip)) (.s (.ops [q 51 (.loadN 3 7), q 52 (.mv 1), q 53 (.loadN 2 5), qc 54 21 [51, 52, 53], q 50 (.mv 54), q 55 (.extract 50 0), q 56 (.extract 50 1), q 12 (.mv 55), q 9 (.mv 56)]) (.s (.ops [q 58 (.loadN 3 3), q 59 (.mv 1), q 60 (.loadN 2 5), qc 61 22 [58, 59, 60], q 57 (.mv 61), q 62 (.extract 57 0), q 63 (.extract 57 1), q 13 (.mv 62), q 11 (.mv 63)]) (.s (.s (.ops [q 64 (.mv 12), q 65 (.mv 13), q 66 (.eqB true 64 65), q 67 (.mv 66), (q 68 (.mv 9)).n 67, (q 69 (.mv 11)).n 67, (q 70 (.binI .neq 68 69)).n 67, q 71 (.pick 67 (.c (.bool true)) 70)]) (.cond 71 C6_33 .skip)) (.s (.ops [q 73 (.loadN 3 7), q 74 (.mv 1), q 75 (.faddr 0 5), q 76 (.load1 75), qc 77 23 [73, 74, 76], q 72 (.mv 77), q 78 (.extract 72 0), q 79 (.extract 72 1), q 80 (.extract 72 2), q 14 (.alloc [(.int .i64 0), (.int .i64 0)]), q0 (.store 2 14 78), q 15 (.mv 79), q 9 (.mv 80)]) (.s (.ops [q 82 (.loadN 3 3), q 83 (.mv 1), q 84 (.faddr 0 5), q 85 (.load1 84), qc 86 24 [82, 83, 85], q 81 (.mv 86), q 87 (.extract 81 0), q 88 (.extract 81 1), q 89 (.extract 81 2), q 16 (.alloc [(.int .i64 0), (.int .i64 0)]), q0 (.store 2 16 87), q 17 (.mv 88), q 11 (.mv 89)]) C6_41))))))))))
def R6 : List RA := [(.tmp 6)]
theorem k6 : compF Try.prog (muL [3, 5]) 6 = some ⟨111, C6_1, R6⟩ := by kernel_rfl
noncomputable abbrev X6 (r : Bool) : Cx := cD Try.prog noG 111 R6 (AV.bool r) [3, 5]
noncomputable def F6 (p : T34) (s : Str) (at_ : T56) : Option Bool :=
 (F16 p >>= fun r_1 =>
  (F11 r_1 >>= fun r_4 =>
   (F19 p >>= fun r_6 =>
    (if (!(r_4 == r_6)) = true then
     (some false)
    else
     (F17 r_1 s at_.From >>= fun r_9 =>
      (F20 p s at_.From >>= fun r_11 =>
       (F15 r_9.1 r_11.1 >>= fun r_13 =>
        (if (!r_13) = true then
         (some false)
        else
         (if (r_9.2 != r_11.2) = true then
          (some false)
         else
          (F21 r_1 s at_ >>= fun r_17 =>
           (F22 p s at_ >>= fun r_19 =>
            (if (!(r_17.1 == r_19.1)) = true then
             (some false)
            else
             (if (r_17.2 != r_19.2) = true then
              (some false)
             else
              (F23 r_1 s at_.From >>= fun r_23 =>
               (F24 p s at_.From >>= fun r_26 =>
                (if (decide (r_23.1 = r_26.1)) = true then
                 (if (r_23.2.1 == r_26.2.1) = true then
                  (if (r_23.2.2 == r_26.2.2) = true then
                   (F18 r_1 p >>= fun r_32 =>
                    (if r_32 = true then
                     (F8 >>= fun r_35 =>
                      (some r_35))
                    else
                     (some false)))
                  else
                   (some false))
                 else
                  (some false))
                else
                 (some false)))))))))))))))))
theorem d6 (p : T34) (s : Str) (at_ : T56) (r : Bool) (hF : F6 p s at_ = some r) : DFun Try.prog noG 6 [v34 p, AV.str s, v56 at_] (AV.bool r) := by
 unfold F6 at hF
 refine bD k6 rfl ?_
 have hs : SH [] [] := SH.nil
 generalize ([] : Store) = st at hs ⊢
 refine rn 0 rfl ?_
 refine W.o (e_boxD (cs := c34 p) rfl rfl (c34_one _)) ?_
 refine W.o (e_boxD (cs := c56 at_) rfl rfl rfl) ?_
 refine rn 1 rfl ?_
 refine W.o (lND (s := c34 p) rfl rfl rfl) ?_
 obtain ⟨r_1, g_2, hF⟩ := bind_some hF
 refine df (d16 p _ g_2) rfl ?_
 refine al hs (cs := c34 ({ Groups := 0, Slots := 0, Code := none } : T34)) rfl fun st b_3 hs => ?_
 refine sl hs 0 rfl rfl (LR.whole _ _) (c34_len _) rfl (c34_len _) (c34_one _) rfl fun st hs => ?_
 refine rn 0 rfl ?_
 have h0 := hs
 refine dr0 ?_
 refine de rfl (lN (s := c34 r_1) rfl (h0.g 0 rfl) rfl rfl) ?_
 refine de rfl (lND (s := c34 p) rfl rfl rfl) ?_
 obtain ⟨r_4, g_5, hF⟩ := bind_some hF
 refine ddf (d11 r_1 _ g_5) rfl ?_
 obtain ⟨r_6, g_7, hF⟩ := bind_some hF
 refine ddf (d19 p _ g_7) rfl ?_
 refine dn 1 rfl ?_
 refine dz ?_
 refine rn 0 rfl ?_
 refine ci hF rfl (fun c_8 hF => ?_) (fun c_8 hF => ?_)
 · refine rn 1 rfl ?_
   cases hF
   exact rD (rlt rl0) rfl
 · refine rn 0 rfl ?_
   refine W.o (lN (s := c34 r_1) rfl (hs.g 0 rfl) rfl rfl) ?_
   refine rn 1 rfl ?_
   refine W.o (e_faddrD rfl) ?_
   refine W.o (l1D rfl rfl) ?_
   obtain ⟨r_9, g_10, hF⟩ := bind_some hF
   refine df (d17 r_1 s at_.From _ g_10) rfl ?_
   refine rn 5 rfl ?_
   refine W.o (lND (s := c34 p) rfl rfl rfl) ?_
   refine rn 1 rfl ?_
   refine W.o (e_faddrD rfl) ?_
   refine W.o (l1D rfl rfl) ?_
   obtain ⟨r_11, g_12, hF⟩ := bind_some hF
   refine df (d20 p s at_.From _ g_12) rfl ?_
   obtain ⟨r_13, g_14, hF⟩ := bind_some hF
   refine rn 7 rfl ?_
   refine df (d15 r_9.1 r_11.1 _ g_14) rfl ?_
   refine rn 2 rfl ?_
   refine bi hF (fun c_15 hF => ?_) (fun c_15 hF => ?_)
   · refine wfx 45 rfl c_15 ?_
     refine rn 4 rfl ?_
     refine ct rfl rfl ?_
     refine rn 1 rfl ?_
     cases hF
     exact rD (rlt rl0) rfl
   · refine wfx 45 rfl c_15 ?_
     refine rn 4 rfl ?_
     refine ci hF rfl (fun c_16 hF => ?_) (fun c_16 hF => ?_)
     · refine rn 1 rfl ?_
       cases hF
       exact rD (rlt rl0) rfl
     · refine rn 0 rfl ?_
       refine W.o (lN (s := c34 r_1) rfl (hs.g 0 rfl) rfl rfl) ?_
       refine rn 1 rfl ?_
       refine W.o (lND (s := c56 at_) rfl rfl rfl) ?_
       obtain ⟨r_17, g_18, hF⟩ := bind_some hF
       refine df (d21 r_1 s at_ _ g_18) rfl ?_
       refine rn 5 rfl ?_
       refine W.o (lND (s := c34 p) rfl rfl rfl) ?_
       refine rn 1 rfl ?_
       refine W.o (lND (s := c56 at_) rfl rfl rfl) ?_
       obtain ⟨r_19, g_20, hF⟩ := bind_some hF
       refine df (d22 p s at_ _ g_20) rfl ?_
       refine rn 9 rfl ?_
       refine bi hF (fun c_21 hF => ?_) (fun c_21 hF => ?_)
       · refine wfx 67 rfl c_21 ?_
         refine rn 4 rfl ?_
         refine ct rfl rfl ?_
         refine rn 1 rfl ?_
         cases hF
         exact rD (rlt rl0) rfl
       · refine wfx 67 rfl c_21 ?_
         refine rn 4 rfl ?_
         refine ci hF rfl (fun c_22 hF => ?_) (fun c_22 hF => ?_)
         · refine rn 1 rfl ?_
           cases hF
           exact rD (rlt rl0) rfl
         · refine rn 0 rfl ?_
           refine W.o (lN (s := c34 r_1) rfl (hs.g 0 rfl) rfl rfl) ?_
           refine rn 1 rfl ?_
           refine W.o (e_faddrD rfl) ?_
           refine W.o (l1D rfl rfl) ?_
           obtain ⟨r_23, g_24, hF⟩ := bind_some hF
           refine df (d23 r_1 s at_.From _ g_24) rfl ?_
           refine rn 4 rfl ?_
           refine al hs (cs := c56 ({ From := 0, To := 0 } : T56)) rfl fun st b_25 hs => ?_
           refine sr hs 0 rfl rfl rfl (cs' := c56 r_23.1) rfl rfl fun st hs => ?_
           refine rn 2 rfl ?_
           refine W.o (lND (s := c34 p) rfl rfl rfl) ?_
           refine rn 1 rfl ?_
           refine W.o (e_faddrD rfl) ?_
           refine W.o (l1D rfl rfl) ?_
           obtain ⟨r_26, g_27, hF⟩ := bind_some hF
           refine df (d24 p s at_.From _ g_27) rfl ?_
           refine rn 4 rfl ?_
           refine al hs (cs := c56 ({ From := 0, To := 0 } : T56)) rfl fun st b_28 hs => ?_
           refine sr hs 0 rfl rfl rfl (cs' := c56 r_26.1) rfl rfl fun st hs => ?_
           refine rn 2 rfl ?_
           refine W.o (lN (s := c56 r_23.1) rfl (hs.g 1 rfl) rfl rfl) ?_
           refine W.o (lN (s := c56 r_26.1) rfl (hs.g 0 rfl) rfl rfl) ?_
           refine W.o (e_eqA rfl rfl (c56_eq r_23.1 r_26.1)) ?_
           refine rn 1 rfl ?_
           refine bi hF (fun c_29 hF => ?_) (fun c_29 hF => ?_)
           · refine wfx 93 rfl c_29 ?_
             refine rn 5 rfl ?_
             refine bi hF (fun c_30 hF => ?_) (fun c_30 hF => ?_)
             · refine wfx 98 rfl c_30 ?_
               refine rn 5 rfl ?_
               refine bi hF (fun c_31 hF => ?_) (fun c_31 hF => ?_)
               · refine wfx 103 rfl c_31 ?_
                 refine W.on rfl rfl ?_
                 refine W.o (lN (s := c34 r_1) rfl (hs.g 2 rfl) rfl rfl) ?_
                 refine W.on rfl rfl ?_
                 refine W.o (lND (s := c34 p) rfl rfl rfl) ?_
                 obtain ⟨r_32, g_33, hF⟩ := bind_some hF
                 refine W.on rfl rfl ?_
                 refine df (d18 r_1 p _ g_33) rfl ?_
                 refine rn 2 rfl ?_
                 refine bi hF (fun c_34 hF => ?_) (fun c_34 hF => ?_)
                 · refine wfx 108 rfl c_34 ?_
                   obtain ⟨r_35, g_36, hF⟩ := bind_some hF
                   refine W.on rfl rfl ?_
                   refine df (d8 _ g_36) rfl ?_
                   refine rn 2 rfl ?_
                   cases hF
                   exact rD (rlt rl0) rfl
                 · refine wfx 108 rfl c_34 ?_
                   refine rn 3 rfl ?_
                   cases hF
                   exact rD (rlt rl0) rfl
               · refine wfx 103 rfl c_31 ?_
                 refine rn 8 rfl ?_
                 cases hF
                 exact rD (rlt rl0) rfl
             · refine wfx 98 rfl c_30 ?_
               refine rn 13 rfl ?_
               cases hF
               exact rD (rlt rl0) rfl
           · refine wfx 93 rfl c_29 ?_
             refine rn 18 rfl ?_
             cases hF
             exact rD (rlt rl0) rfl
/-! ### 7: paddock/paddocklaw10.NfaLongest -/
def C7_34 : ACode := .s (.ops [q 6 (.mv (.c (.bool false)))]) .ret
def C7_45 : ACode := .s (.ops [q 69 (.mv 13), q 70 (.mv 12), q 71 (.binI .leq 69 70)]) (.cond 71 .skip (.exit 0))
def C7_73 : ACode := .s (.ops [q 103 (.mv 14), q 104 (.len 103), q 105 (.binI .neq 104 (ki 0))]) (.cond 105 (.s (.ops [q 6 (.mv (.c (.bool false)))]) .ret) .skip)
def C7_94 : ACode := .s (.draw [] 0 0 [q 124 (.mv 18), q 125 (.binI .neq 124 (ki 0)), q 126 (.mv 125), (q 127 (.mv 17)).n 126, (q 128 (.un .not 127)).n 126, q 129 (.pick 126 (.c (.bool true)) 128), q 130 (.mv 129), (q 131 (.mv 16)).n 130, (q 132 (.binI .gtr 131 (ki 0))).n 130, (q 133 (.mv 132)).n 130, (q 134 (.mv 14)).y 133, (q 135 (.mv 16)).y 133, (q 136 (.iaddrL 1 134 135)).y 133, (q 137 (.load1 136)).y 133, (q 138 (.mv 14)).y 133, (q 139 (.mv 16)).y 133, (q 140 (.binI .sub 139 (ki 1))).y 133, (q 141 (.iaddrL 1 138 140)).y 133, (q 142 (.load1 141)).y 133, (q 143 (.binI .leq 137 142)).y 133, (q 144 (.pick 133 143 (.c (.bool false)))).n 130, q 145 (.pick 130 (.c (.bool true)) 144)] []) (.cond 145 (.s (.ops [q 6 (.mv (.c (.bool false)))]) .ret) .skip)
def C7_84 : ACode := .s (.s (.ops [q 106 (.mv 16), q 107 (.mv 14), q 108 (.len 107), q 109 (.binI .lss 106 108)]) (.cond 109 .skip (.exit 2))) (.s (.block 3 (.s (.draw [] 0 0 [q 113 (.loadN 3 3), q 114 (.mv 1), q 115 (.mv 13), q 116 (.mv 14), q 117 (.mv 16), q 118 (.iaddrL 1 116 117), q 119 (.load1 118), q 120 (.build [(.int .i64 0), (.int .i64 0)] [(0, (1, 115)), (1, (1, 119))]), qc 121 21 [113, 114, 120], q 112 (.mv 121), q 122 (.extract 112 0), q 123 (.extract 112 1), q 17 (.mv 122), q 18 (.mv 123)] []) C7_94)) (.ops [q 110 (.mv 16), q 111 (.binI .add 110 (ki 1)), q 16 (.mv 111)]))
def C7_80 : ACode := .s (.ops [q 16 (.mv (ki 0))]) (.block 2 (.loop C7_84))
def C7_102 : ACode := .ops [q 72 (.mv 13), q 73 (.binI .add 72 (ki 1)), q 13 (.mv 73)]
def C7_50 : ACode := .s (.block 1 (.s (.ops [q 75 (.loadN 3 3), q 76 (.mv 1), q 77 (.mv 13), qc 78 17 [75, 76, 77], q 74 (.mv 78), q 79 (.extract 74 0), q 80 (.extract 74 1), q 14 (.mv 79), q 15 (.mv 80)]) (.s (.s (.ops [q 81 (.mv 15), q 82 (.binI .neq 81 (ki 0))]) (.cond 82 (.s (.ops [q 6 (.mv (.c (.bool false)))]) .ret) .skip)) (.s (.s (.ops [q 83 (.mv 8), q 84 (.mv 83), (q 85 (.mv 13)).y 84, (q 86 (.mv 12)).y 84, (q 87 (.binI .eql 85 86)).y 84, q 88 (.pick 84 87 (.c (.bool false)))]) (.cond 88 (.s (.draw [] 0 0 [q 89 (.mv 14), q 90 (.len 89), q 91 (.binI .lss 90 (ki 1)), q 92 (.mv 91), (q 93 (.mv 14)).n 92, (q 94 (.mv 14)).n 92, (q 95 (.len 94)).n 92, (q 96 (.binI .sub 95 (ki 1))).n 92, (q 97 (.iaddrL 1 93 96)).n 92, (q 98 (.load1 97)).n 92, (q 99 (.faddr 1 7)).n 92, (q 100 (.load1 99)).n 92, (q 101 (.binI .neq 98 100)).n 92, q 102 (.pick 92 (.c (.bool true)) 101)] []) (.cond 102 (.s (.ops [q 6 (.mv (.c (.bool false)))]) .ret) .skip)) C7_73)) C7_80)))) C7_102
def C7_44 : ACode := .s C7_45 C7_50
def C7_103 : ACode := .s (.ops [q 6 (.mv (.c (.bool true)))]) .ret
def C7_39 : ACode := .s (.s (.ops [q 68 (.mv 2), q 13 (.mv 68)]) (.block 0 (.loop C7_44))) C7_103
def C7_1 : ACode := .s (.ops [q 3 (.boxD 3 0), q 6 (.mv (.c (.bool false)))]) (.s (.s (.ops [qc 19 8 [], q 20 (.un .not 19)]) (.cond 20 (.s (.ops [q 6 (.mv (.c (.bool false)))]) .ret) .skip)) (.s (.ops [q 22 (.loadN 3 3), q 23 (.mv 1), q 24 (.mv 2), qc 25 23 [22, 23, 24], q 21 (.mv 25), q 26 (.extract 21 0), q 27 (.extract 21 1), q 28 (.extract 21 2), q 7 (.alloc [(.int .i64 0), (.int .i64 0)]), q0 (.store 2 7 26), q 8 (.mv 27), q 9 (.mv 28)]) (.s (.s (.ops [q 29 (.mv 9), q 30 (.binI .neq 29 (ki 0))]) (.cond 30 (.s (.ops [q 32 (.loadN 3 3), q 33 (.mv 1), q 34 (.mv 2), qc 35 17 [32, 33, 34], q 31 (.mv 35), q 36 (.extract 31 0), q 37 (.extract 31 1), q 10 (.mv 36), q 11 (.mv 37)]) (.s (.ops [q 38 (.mv 11), q 39 (.mv 9), q 40 (.binI .eql 38 39), q 41 (.mv 40), (q 42 (.mv 8)).y 41, (q 43 (.un .not 42)).y 41, q 44 (.pick 41 43 (.c (.bool false))), q 6 (.mv 44)]) .ret)) .skip)) (.s (.ops [q 45 (.mv 1), q 46 (.lenS 45), q 12 (.mv 46)]) (.s (.s (.ops [q 47 (.mv 8)]) (.cond 47 (.s (.ops [q 48 (.faddr 0 7), q 49 (.load1 48), q 12 (.mv 49)]) (.s (.ops [q 50 (.faddr 0 7), q 51 (.load1 50), q 52 (.mv 2), q 53 (.binI .lss 51 52), q 54 (.mv 53), (q 55 (.faddr 1 7)).n 54, (q 56 (.load1 55)).n 54, (q 57 (.faddr 0 7)).n 54, (q 58 (.load1 57)).n 54, (q 59 (.binI .lss 56 58)).n 54, q 60 (.pick 54 (.c (.bool true)) 59), q 61 (.mv 60), (q 62 (.faddr 1 7)).n 61, (q 63 (.load1 62)).n 61, (q 64 (.mv 1)).n 61, (q 65 (.lenS 64)).n 61, (q 66 (.binI .gtr 63 65)).n 61, q 67 (.pick 61 (.c (.bool true)) 66)]) (.cond 67 C7_34 .skip))) .skip)) C7_39)))))
def R7 : List RA := [(.tmp 6)]
theorem k7 : compF Try.prog (muL [3]) 7 = some ⟨146, C7_1, R7⟩ := by kernel_rfl
noncomputable abbrev X7 (r : Bool) : Cx := cD Try.prog noG 146 R7 (AV.bool r) [3]
inductive St7 where
 | p1 (s : Str) (from_ : Int) (p : T34) (ok : Bool) (last : Int) (x_ : T56)
 | p2 (s : Str) (p : T34) (ok : Bool) (last : Int) (i : Int) (x_ : T56)
 | p3 (s : Str) (p : T34) (ok : Bool) (last : Int) (i : Int) (l : Sl Int) (x_ : T56)
 | p4 (s : Str) (p : T34) (ok : Bool) (last : Int) (i : Int) (l : Sl Int) (x_ : T56)
 | p5 (s : Str) (p : T34) (ok : Bool) (last : Int) (i : Int) (l : Sl Int) (k : Int) (x_ : T56)
noncomputable def G7 : St7 → Option Bool
 | .p1 s from_ p ok last x_ =>
  (G7 (.p2 s p ok last from_ x_))
 | .p2 s p ok last i x_ =>
  (if (decide (i ≤ last)) = true then
   (F17 p s i >>= fun r_16 =>
    (if (r_16.2 != 0) = true then
     (some false)
    else
     (if ok = true then
      (if (i == last) = true then
       (if (decide (((ls r_16.1).length : Int) < 1)) = true then
        (some false)
       else
        (ix (ls r_16.1) (IntKind.wrap .i64 (((ls r_16.1).length : Int) - 1)) >>= fun v_22 =>
         (if (v_22 != x_.To) = true then
          (some false)
         else
          (G7 (.p3 s p ok last i r_16.1 x_)))))
      else
       (G7 (.p4 s p ok last i r_16.1 x_)))
     else
      (G7 (.p4 s p ok last i r_16.1 x_)))))
  else
   (some true))
 | .p3 s p ok last i l x_ =>
  (G7 (.p5 s p ok last i l 0 x_))
 | .p4 s p ok last i l x_ =>
  (if (((ls l).length : Int) != 0) = true then
   (some false)
  else
   (G7 (.p3 s p ok last i l x_)))
 | .p5 s p ok last i l k x_ =>
  (if (decide (k < ((ls l).length : Int))) = true then
   (ix (ls l) k >>= fun v_27 =>
    (F21 p s ({ From := i, To := v_27 } : T56) >>= fun r_29 =>
     (if (r_29.2 != 0) = true then
      (some false)
     else
      (if (!r_29.1) = true then
       (some false)
      else
       (if (decide (k > 0)) = true then
        (ix (ls l) k >>= fun v_34 =>
         (ix (ls l) (IntKind.wrap .i64 (k - 1)) >>= fun v_36 =>
          (if (decide (v_34 ≤ v_36)) = true then
           (some false)
          else
           (G7 (.p5 s p ok last i l (IntKind.wrap .i64 (k + 1)) x_)))))
       else
        (G7 (.p5 s p ok last i l (IntKind.wrap .i64 (k + 1)) x_)))))))
  else
   (G7 (.p2 s p ok last (IntKind.wrap .i64 (i + 1)) x_)))
 partial_fixpoint
def M7 (x : St7) (r : Bool) : Prop := match x with
 | .p1 s from_ p ok last x_ => ∀ (tm : Fr) (st : Store) (io0 : Nat), Frm tm [(1, AV.str s), (2, AV.int .i64 from_), (3, .dptr (c34 p)), (7, .ptr io0 0), (8, AV.bool ok), (12, AV.int .i64 last)] → SH st [pt io0 (.cells (c56 x_))] → W (X7 r) [.code C7_39] tm st
 | .p2 s p ok last i x_ => ∀ (tm : Fr) (st : Store) (io0 : Nat), Frm tm [(1, AV.str s), (3, .dptr (c34 p)), (7, .ptr io0 0), (8, AV.bool ok), (12, AV.int .i64 last), (13, AV.int .i64 i)] → SH st [pt io0 (.cells (c56 x_))] → W (X7 r) [.lp C7_44, .blk 0, .code C7_103] tm st
 | .p3 s p ok last i l x_ => ∀ (tm : Fr) (st : Store) (io0 : Nat), Frm tm [(1, AV.str s), (3, .dptr (c34 p)), (7, .ptr io0 0), (8, AV.bool ok), (12, AV.int .i64 last), (13, AV.int .i64 i), (14, slV 1 (AV.int .i64) l)] → SH st [pt io0 (.cells (c56 x_))] → W (X7 r) [.code C7_80, .blk 1, .code C7_102, .lp C7_44, .blk 0, .code C7_103] tm st
 | .p4 s p ok last i l x_ => ∀ (tm : Fr) (st : Store) (io0 : Nat), Frm tm [(1, AV.str s), (3, .dptr (c34 p)), (7, .ptr io0 0), (8, AV.bool ok), (12, AV.int .i64 last), (13, AV.int .i64 i), (14, slV 1 (AV.int .i64) l)] → SH st [pt io0 (.cells (c56 x_))] → W (X7 r) [.code C7_73, .code C7_80, .blk 1, .code C7_102, .lp C7_44, .blk 0, .code C7_103] tm st
 | .p5 s p ok last i l k x_ => ∀ (tm : Fr) (st : Store) (io0 : Nat), Frm tm [(1, AV.str s), (3, .dptr (c34 p)), (7, .ptr io0 0), (8, AV.bool ok), (12, AV.int .i64 last), (13, AV.int .i64 i), (14, slV 1 (AV.int .i64) l), (16, AV.int .i64 k)] → SH st [pt io0 (.cells (c56 x_))] → W (X7 r) [.lp C7_84, .blk 2, .blk 1, .code C7_102, .lp C7_44, .blk 0, .code C7_103] tm st
theorem w7 : ∀ (x : St7) (r : Bool), G7 x = some r → M7 x r := by
 refine G7.partial_correctness (M7) ?_
 intro g ih x r hF
 cases x with
 | p1 s from_ p ok last x_ =>
  dsimp only at hF
  intro tm st io0 hf hs
  refine en hf ?_
  refine rn 2 rfl ?_
  exact ih (.p2 s p ok last from_ x_) _ hF _ _ io0 ⟨rfl, rfl, rfl, rfl, rfl, rfl, trivial⟩ hs
 | p2 s p ok last i x_ =>
  dsimp only at hF
  intro tm st io0 hf hs
  refine en hf ?_
  refine lp ?_
  refine rn 3 rfl ?_
  refine ci hF rfl (fun c_15 hF => ?_) (fun c_15 hF => ?_)
  · refine rn 0 rfl ?_
    refine W.o (lND (s := c34 p) rfl rfl rfl) ?_
    obtain ⟨r_16, g_17, hF⟩ := bind_some hF
    refine rn 2 rfl ?_
    refine df (d17 p s i _ g_17) rfl ?_
    refine rn 7 rfl ?_
    refine ci hF rfl (fun c_18 hF => ?_) (fun c_18 hF => ?_)
    · refine rn 1 rfl ?_
      cases hF
      exact rD (rlt rl0) rfl
    · refine rn 2 rfl ?_
      refine bi hF (fun c_19 hF => ?_) (fun c_19 hF => ?_)
      · refine wfx 84 rfl c_19 ?_
        refine rn 4 rfl ?_
        refine ci hF rfl (fun c_20 hF => ?_) (fun c_20 hF => ?_)
        · refine rn 0 rfl ?_
          have h0 := hs
          refine dr0 ?_
          refine dn 1 rfl ?_
          refine de rfl (e_len (rd_V rfl)) ?_
          refine dn 2 rfl ?_
          refine bi hF (fun c_21 hF => ?_) (fun c_21 hF => ?_)
          · refine dfx 92 rfl c_21 ?_
            refine dn 10 rfl ?_
            refine dz ?_
            refine rn 0 rfl ?_
            refine ct rfl rfl ?_
            refine rn 1 rfl ?_
            cases hF
            exact rD (rlt rl0) rfl
          · refine dfx 92 rfl c_21 ?_
            refine dn 2 rfl ?_
            refine don rfl rfl ?_
            refine de rfl (e_len (rd_V rfl)) ?_
            obtain ⟨v_22, g_23, hF⟩ := bind_some hF
            refine dn 1 rfl ?_
            refine don rfl rfl ?_
            refine de rfl (e_iaddrL (rd_V rfl) rfl g_23) ?_
            refine don rfl rfl ?_
            refine de rfl (l1D rfl rfl) ?_
            refine don rfl rfl ?_
            refine de rfl (e_faddr rfl (h0.g 0 rfl)) ?_
            refine don rfl rfl ?_
            refine de rfl (l1 rfl (h0.g 0 rfl) rfl) ?_
            refine dn 2 rfl ?_
            refine dz ?_
            refine rn 0 rfl ?_
            refine ci hF rfl (fun c_24 hF => ?_) (fun c_24 hF => ?_)
            · refine rn 1 rfl ?_
              cases hF
              exact rD (rlt rl0) rfl
            · refine rj 0 1 rfl ?_
              exact ih (.p3 s p ok last i r_16.1 x_) _ hF _ _ io0 ⟨rfl, rfl, rfl, rfl, rfl, rfl, rfl, trivial⟩ hs
        · exact ih (.p4 s p ok last i r_16.1 x_) _ hF _ _ io0 ⟨rfl, rfl, rfl, rfl, rfl, rfl, rfl, trivial⟩ hs
      · refine wfx 84 rfl c_19 ?_
        refine rn 4 rfl ?_
        refine cf rfl rfl ?_
        exact ih (.p4 s p ok last i r_16.1 x_) _ hF _ _ io0 ⟨rfl, rfl, rfl, rfl, rfl, rfl, rfl, trivial⟩ hs
  · refine rn 1 rfl ?_
    cases hF
    exact rD (rlt rl0) rfl
 | p3 s p ok last i l x_ =>
  dsimp only at hF
  intro tm st io0 hf hs
  refine en hf ?_
  refine rn 1 rfl ?_
  exact ih (.p5 s p ok last i l 0 x_) _ hF _ _ io0 ⟨rfl, rfl, rfl, rfl, rfl, rfl, rfl, rfl, trivial⟩ hs
 | p4 s p ok last i l x_ =>
  dsimp only at hF
  intro tm st io0 hf hs
  refine en hf ?_
  refine rn 1 rfl ?_
  refine W.o (e_len (rd_V rfl)) ?_
  refine rn 1 rfl ?_
  refine ci hF rfl (fun c_25 hF => ?_) (fun c_25 hF => ?_)
  · refine rn 1 rfl ?_
    cases hF
    exact rD (rlt rl0) rfl
  · refine rj 0 1 rfl ?_
    exact ih (.p3 s p ok last i l x_) _ hF _ _ io0 ⟨rfl, rfl, rfl, rfl, rfl, rfl, rfl, trivial⟩ hs
 | p5 s p ok last i l k x_ =>
  dsimp only at hF
  intro tm st io0 hf hs
  refine en hf ?_
  refine lp ?_
  refine rn 2 rfl ?_
  refine W.o (e_len (rd_V rfl)) ?_
  refine rn 1 rfl ?_
  refine ci hF rfl (fun c_26 hF => ?_) (fun c_26 hF => ?_)
  · refine rn 0 rfl ?_
    have h0 := hs
    refine dr0 ?_
    refine de rfl (lND (s := c34 p) rfl rfl rfl) ?_
    obtain ⟨v_27, g_28, hF⟩ := bind_some hF
    refine dn 4 rfl ?_
    refine de rfl (e_iaddrL (rd_V rfl) rfl g_28) ?_
    refine de rfl (l1D rfl rfl) ?_
    refine de rfl (bR (cs := c56 ({ From := i, To := v_27 } : T56)) rfl rfl) ?_
    obtain ⟨r_29, g_30, hF⟩ := bind_some hF
    refine ddf (d21 p s ({ From := i, To := v_27 } : T56) _ g_30) rfl ?_
    refine dn 5 rfl ?_
    refine dz ?_
    refine rn 0 rfl ?_
    have h0 := hs
    refine dr0 ?_
    refine dn 3 rfl ?_
    refine bi hF (fun c_31 hF => ?_) (fun c_31 hF => ?_)
    · refine dfx 126 rfl c_31 ?_
      refine dn 19 rfl ?_
      refine dz ?_
      refine rn 0 rfl ?_
      refine ct rfl rfl ?_
      refine rn 1 rfl ?_
      cases hF
      exact rD (rlt rl0) rfl
    · refine dfx 126 rfl c_31 ?_
      refine dn 4 rfl ?_
      refine bi hF (fun c_32 hF => ?_) (fun c_32 hF => ?_)
      · refine dfx 130 rfl c_32 ?_
        refine dn 15 rfl ?_
        refine dz ?_
        refine rn 0 rfl ?_
        refine ct rfl rfl ?_
        refine rn 1 rfl ?_
        cases hF
        exact rD (rlt rl0) rfl
      · refine dfx 130 rfl c_32 ?_
        refine dn 3 rfl ?_
        refine bi hF (fun c_33 hF => ?_) (fun c_33 hF => ?_)
        · refine dfx 133 rfl c_33 ?_
          obtain ⟨v_34, g_35, hF⟩ := bind_some hF
          refine dn 2 rfl ?_
          refine don rfl rfl ?_
          refine de rfl (e_iaddrL (rd_V rfl) rfl g_35) ?_
          refine don rfl rfl ?_
          refine de rfl (l1D rfl rfl) ?_
          obtain ⟨v_36, g_37, hF⟩ := bind_some hF
          refine dn 3 rfl ?_
          refine don rfl rfl ?_
          refine de rfl (e_iaddrL (rd_V rfl) rfl g_37) ?_
          refine don rfl rfl ?_
          refine de rfl (l1D rfl rfl) ?_
          refine dn 3 rfl ?_
          refine dz ?_
          refine rn 0 rfl ?_
          refine ci hF rfl (fun c_38 hF => ?_) (fun c_38 hF => ?_)
          · refine rn 1 rfl ?_
            cases hF
            exact rD (rlt rl0) rfl
          · refine rn 3 rfl ?_
            exact ih (.p5 s p ok last i l (IntKind.wrap .i64 (k + 1)) x_) _ hF _ _ io0 ⟨rfl, rfl, rfl, rfl, rfl, rfl, rfl, rfl, trivial⟩ hs
        · refine dfx 133 rfl c_33 ?_
          refine dn 12 rfl ?_
          refine dz ?_
          refine rn 0 rfl ?_
          refine cf rfl rfl ?_
          refine rn 3 rfl ?_
          exact ih (.p5 s p ok last i l (IntKind.wrap .i64 (k + 1)) x_) _ hF _ _ io0 ⟨rfl, rfl, rfl, rfl, rfl, rfl, rfl, rfl, trivial⟩ hs
  · refine rn 3 rfl ?_
    exact ih (.p2 s p ok last (IntKind.wrap .i64 (i + 1)) x_) _ hF _ _ io0 ⟨rfl, rfl, rfl, rfl, rfl, rfl, trivial⟩ hs
noncomputable def F7 (p : T34) (s : Str) (from_ : Int) : Option Bool :=
 (F8 >>= fun r_1 =>
  (if (!r_1) = true then
   (some false)
  else
   (F23 p s from_ >>= fun r_4 =>
    (if (r_4.2.2 != 0) = true then
     (F17 p s from_ >>= fun r_8 =>
      (if (r_8.2 == r_4.2.2) = true then
       (some (!r_4.2.1))
      else
       (some false)))
    else
     (if r_4.2.1 = true then
      (if (decide (r_4.1.From < from_)) = true then
       (some false)
      else
       (if (decide (r_4.1.To < r_4.1.From)) = true then
        (some false)
       else
        (if (decide (r_4.1.To > ((s).length : Int))) = true then
         (some false)
        else
         (G7 (.p1 s from_ p r_4.2.1 r_4.1.From r_4.1)))))
     else
      (G7 (.p1 s from_ p r_4.2.1 ((s).length : Int) r_4.1)))))))
theorem d7 (p : T34) (s : Str) (from_ : Int) (r : Bool) (hF : F7 p s from_ = some r) : DFun Try.prog noG 7 [v34 p, AV.str s, AV.int .i64 from_] (AV.bool r) := by
 unfold F7 at hF
 refine bD k7 rfl ?_
 have hs : SH [] [] := SH.nil
 generalize ([] : Store) = st at hs ⊢
 refine rn 0 rfl ?_
 refine W.o (e_boxD (cs := c34 p) rfl rfl (c34_one _)) ?_
 obtain ⟨r_1, g_2, hF⟩ := bind_some hF
 refine rn 1 rfl ?_
 refine df (d8 _ g_2) rfl ?_
 refine rn 1 rfl ?_
 refine ci hF rfl (fun c_3 hF => ?_) (fun c_3 hF => ?_)
 · refine rn 1 rfl ?_
   cases hF
   exact rD (rlt rl0) rfl
 · refine rn 0 rfl ?_
   refine W.o (lND (s := c34 p) rfl rfl rfl) ?_
   obtain ⟨r_4, g_5, hF⟩ := bind_some hF
   refine rn 2 rfl ?_
   refine df (d23 p s from_ _ g_5) rfl ?_
   refine rn 4 rfl ?_
   refine al hs (cs := c56 ({ From := 0, To := 0 } : T56)) rfl fun st b_6 hs => ?_
   refine sr hs 0 rfl rfl rfl (cs' := c56 r_4.1) rfl rfl fun st hs => ?_
   refine rn 4 rfl ?_
   refine ci hF rfl (fun c_7 hF => ?_) (fun c_7 hF => ?_)
   · refine rn 0 rfl ?_
     refine W.o (lND (s := c34 p) rfl rfl rfl) ?_
     obtain ⟨r_8, g_9, hF⟩ := bind_some hF
     refine rn 2 rfl ?_
     refine df (d17 p s from_ _ g_9) rfl ?_
     refine rn 9 rfl ?_
     refine bi hF (fun c_10 hF => ?_) (fun c_10 hF => ?_)
     · refine wfx 41 rfl c_10 ?_
       refine rn 4 rfl ?_
       cases hF
       exact rD (rlt rl0) rfl
     · refine wfx 41 rfl c_10 ?_
       refine rn 4 rfl ?_
       cases hF
       exact rD (rlt rl0) rfl
   · refine rn 4 rfl ?_
     refine ci hF rfl (fun c_11 hF => ?_) (fun c_11 hF => ?_)
     · refine rn 0 rfl ?_
       refine W.o (e_faddr rfl (hs.g 0 rfl)) ?_
       refine W.o (l1 rfl (hs.g 0 rfl) rfl) ?_
       refine rn 1 rfl ?_
       refine W.o (e_faddr rfl (hs.g 0 rfl)) ?_
       refine W.o (l1 rfl (hs.g 0 rfl) rfl) ?_
       refine rn 3 rfl ?_
       refine bi hF (fun c_12 hF => ?_) (fun c_12 hF => ?_)
       · refine wfx 54 rfl c_12 ?_
         refine rn 13 rfl ?_
         refine ct rfl rfl ?_
         refine rn 1 rfl ?_
         cases hF
         exact rD (rlt rl0) rfl
       · refine wfx 54 rfl c_12 ?_
         refine W.on rfl rfl ?_
         refine W.o (e_faddr rfl (hs.g 0 rfl)) ?_
         refine W.on rfl rfl ?_
         refine W.o (l1 rfl (hs.g 0 rfl) rfl) ?_
         refine W.on rfl rfl ?_
         refine W.o (e_faddr rfl (hs.g 0 rfl)) ?_
         refine W.on rfl rfl ?_
         refine W.o (l1 rfl (hs.g 0 rfl) rfl) ?_
         refine rn 3 rfl ?_
         refine bi hF (fun c_13 hF => ?_) (fun c_13 hF => ?_)
         · refine wfx 61 rfl c_13 ?_
           refine rn 6 rfl ?_
           refine ct rfl rfl ?_
           refine rn 1 rfl ?_
           cases hF
           exact rD (rlt rl0) rfl
         · refine wfx 61 rfl c_13 ?_
           refine W.on rfl rfl ?_
           refine W.o (e_faddr rfl (hs.g 0 rfl)) ?_
           refine W.on rfl rfl ?_
           refine W.o (l1 rfl (hs.g 0 rfl) rfl) ?_
           refine rn 4 rfl ?_
           refine ci hF rfl (fun c_14 hF => ?_) (fun c_14 hF => ?_)
           · refine rn 1 rfl ?_
             cases hF
             exact rD (rlt rl0) rfl
           · refine rj 0 1 rfl ?_
             exact w7 (.p1 s from_ p r_4.2.1 r_4.1.From r_4.1) _ hF _ _ b_6 ⟨rfl, rfl, rfl, rfl, rfl, rfl, trivial⟩ hs
     · refine rj 0 1 rfl ?_
       exact w7 (.p1 s from_ p r_4.2.1 ((s).length : Int) r_4.1) _ hF _ _ b_6 ⟨rfl, rfl, rfl, rfl, rfl, rfl, trivial⟩ hs
end Go.Proofs.Ytjbafmnocopofaa
