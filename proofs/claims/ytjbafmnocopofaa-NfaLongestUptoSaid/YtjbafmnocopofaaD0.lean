/-
  Functions of the program's as plain functions.
-/
import Derived.Test.YtjbafmnocopofaaTy
set_option linter.unusedVariables false
set_option maxRecDepth 4000
set_option maxHeartbeats 4000000
namespace Go.Proofs.Ytjbafmnocopofaa
open Go AW
attribute [local irreducible] W WD SH XS XLoop DFun XCall XYield
/-! ### 31: paddock/posix.plain -/
def O31_25q1 : List AOp := (q 45 (.nilck 44)).y 39 :: (q 46 (.faddr 5 45)).y 39 :: (q 47 (.load1 46)).y 39 :: (q 48 (.binI .lss 43 47)).y 39 :: (q 49 (.mv 48)).y 39 :: (q 50 (.mv 0)).n 49 :: (q 51 (.nilck 50)).n 49 :: (q 52 (.faddr 6 51)).n 49 :: (q 53 (.load1 52)).n 49 :: (q 54 (.binI .gtr 53 (ki 255))).n 49 :: (q 55 (.pick 49 (.c (.bool true)) 54)).y 39 :: (q 56 (.pick 39 55 (.c (.bool false)))).n 33 :: q 57 (.pick 33 (.c (.bool true)) 56) :: []
def O31_25q0 : List AOp := q 21 (.mv 0) :: q 22 (.nilck 21) :: q 23 (.faddr 5 22) :: q 24 (.load1 23) :: q 25 (.binI .lss 24 (ki 0)) :: q 26 (.mv 25) :: (q 27 (.mv 0)).n 26 :: (q 28 (.nilck 27)).n 26 :: (q 29 (.faddr 5 28)).n 26 :: (q 30 (.load1 29)).n 26 :: (q 31 (.binI .gtr 30 (ki 255))).n 26 :: q 32 (.pick 26 (.c (.bool true)) 31) :: q 33 (.mv 32) :: (q 34 (.mv 0)).n 33 :: (q 35 (.nilck 34)).n 33 :: (q 36 (.faddr 6 35)).n 33 :: (q 37 (.load1 36)).n 33 :: (q 38 (.binI .neq 37 (ki (-1)))).n 33 :: (q 39 (.mv 38)).n 33 :: (q 40 (.mv 0)).y 39 :: (q 41 (.nilck 40)).y 39 :: (q 42 (.faddr 6 41)).y 39 :: (q 43 (.load1 42)).y 39 :: (q 44 (.mv 0)).y 39 :: O31_25q1
def C31_24 : ACode := .s (.draw [] 0 0 O31_25q0 []) (.cond 57 (.s (.ops [q 2 (.mv (.c (.bool false)))]) .ret) .skip)
def C31_33 : ACode := .cond 58 (.ops [q 4 (.mv (ki 1))]) (.s (.s (.ops [q 61 (.binI .eql 13 (ku 1)), q 60 (.mv 61)]) (.cond 60 .skip (.s (.ops [q 62 (.binI .eql 13 (ku 2)), q 60 (.mv 62)]) (.cond 60 .skip (.s (.ops [q 63 (.binI .eql 13 (ku 7)), q 60 (.mv 63)]) (.cond 60 .skip (.s (.ops [q 64 (.binI .eql 13 (ku 8)), q 60 (.mv 64)]) (.cond 60 .skip (.ops [q 65 (.binI .eql 13 (ku 9)), q 60 (.mv 65)]))))))))) (.cond 60 .skip (.s (.ops [q 2 (.mv (.c (.bool false)))]) .ret)))
def O31_59o2 : List AOp := (q 114 (.faddr 0 113)).n 111 :: (q 115 (.load1 114)).n 111 :: (q 116 (.binI .eql 115 (ku 7))).n 111 :: (q 117 (.pick 111 (.c (.bool true)) 116)).y 105 :: (q 118 (.mv 117)).y 105 :: (q 119 (.mv 0)).n 118 :: (q 120 (.nilck 119)).n 118 :: (q 121 (.faddr 7 120)).n 118 :: (q 122 (.load1 121)).n 118 :: (q 123 (.binI .eql 122 (ki 0))).n 118 :: (q 124 (.pick 118 (.c (.bool true)) 123)).y 105 :: q 125 (.pick 105 124 (.c (.bool false))) :: q 2 (.mv 125) :: []
def O31_59o1 : List AOp := (q 90 (.mv 89)).y 84 :: (q 91 (.mv 0)).n 90 :: (q 92 (.nilck 91)).n 90 :: (q 93 (.faddr 5 92)).n 90 :: (q 94 (.load1 93)).n 90 :: (q 95 (.binI .eql 94 (ki 0))).n 90 :: (q 96 (.mv 95)).n 90 :: (q 97 (.mv 0)).y 96 :: (q 98 (.nilck 97)).y 96 :: (q 99 (.faddr 6 98)).y 96 :: (q 100 (.load1 99)).y 96 :: (q 101 (.binI .eql 100 (ki 0))).y 96 :: (q 102 (.pick 96 101 (.c (.bool false)))).n 90 :: (q 103 (.pick 90 (.c (.bool true)) 102)).y 84 :: q 104 (.pick 84 103 (.c (.bool false))) :: q 105 (.mv 104) :: (q 106 (.mv 0)).y 105 :: (q 107 (.nilck 106)).y 105 :: (q 108 (.faddr 0 107)).y 105 :: (q 109 (.load1 108)).y 105 :: (q 110 (.binI .eql 109 (ku 6))).y 105 :: (q 111 (.mv 110)).y 105 :: (q 112 (.mv 0)).n 111 :: (q 113 (.nilck 112)).n 111 :: O31_59o2
def O31_59o0 : List AOp := q 66 (.mv 3) :: q 67 (.mv 4) :: q 68 (.binI .eql 66 67) :: q 69 (.mv 68) :: (q 70 (.mv 0)).y 69 :: (q 71 (.nilck 70)).y 69 :: (q 72 (.faddr 0 71)).y 69 :: (q 73 (.load1 72)).y 69 :: (q 74 (.binI .eql 73 (ku 2))).y 69 :: (q 75 (.mv 74)).y 69 :: (q 76 (.mv 0)).n 75 :: (q 77 (.nilck 76)).n 75 :: (q 78 (.faddr 1 77)).n 75 :: (q 79 (.loadN 4 78)).n 75 :: (q 80 (.build [(.int .u64 0), (.int .u64 0), (.int .u64 0), (.int .u64 0)] [])).n 75 :: (q 81 (.eqA false [.i, .i, .i, .i] 79 80)).n 75 :: (q 82 (.pick 75 (.c (.bool true)) 81)).y 69 :: q 83 (.pick 69 82 (.c (.bool false))) :: q 84 (.mv 83) :: (q 85 (.mv 0)).y 84 :: (q 86 (.nilck 85)).y 84 :: (q 87 (.faddr 0 86)).y 84 :: (q 88 (.load1 87)).y 84 :: (q 89 (.binI .eql 88 (ku 5))).y 84 :: O31_59o1
def C31_58 : ACode := .s (.ops O31_59o0) .ret
def C31_1 : ACode := .s (.ops [q 2 (.mv (.c (.bool false)))]) (.s (.ops [q 5 (.mv 0), q 6 (.nilck 5), q 7 (.faddr 8 6), q 8 (.load1 7), q 9 (.len 8), q 3 (.mv 9)]) (.s (.ops [q 4 (.mv (ki 0))]) (.s (.s (.ops [q 10 (.mv 0), q 11 (.nilck 10), q 12 (.faddr 0 11), q 13 (.load1 12)]) (.block 0 (.s (.s (.ops [q 15 (.binI .eql 13 (ku 3)), q 14 (.mv 15)]) (.cond 14 .skip (.ops [q 16 (.binI .eql 13 (ku 4)), q 14 (.mv 16)]))) (.cond 14 (.ops [q 17 (.mv 3), q 18 (.max [17, (ki 2)]), q 4 (.mv 18)]) (.s (.ops [q 20 (.binI .eql 13 (ku 5)), q 19 (.mv 20)]) (.cond 19 (.s (.ops [q 4 (.mv (ki 1))]) C31_24) (.s (.ops [q 59 (.binI .eql 13 (ku 6)), q 58 (.mv 59)]) C31_33))))))) C31_58)))
def R31 : List RA := [(.tmp 2)]
theorem k31 : compF Try.prog (muL []) 31 = some ⟨126, C31_1, R31⟩ := by kernel_rfl
noncomputable abbrev X31 (r : Bool) : Cx := cD Try.prog noG 126 R31 (AV.bool r)
inductive St31 where
 | p1 (n : T27) (kids : Int) (want : Int)
noncomputable def G31 : St31 → Option Bool
 | .p1 n kids want =>
  (if (kids == want) = true then
   (if (n.Kind == 2) = true then
    (if (n.Kind == 5) = true then
     (if (n.Kind == 6) = true then
      (some true)
     else
      (if (n.Kind == 7) = true then
       (some true)
      else
       (some (n.Group == 0))))
    else
     (if (n.Min == 0) = true then
      (if (n.Max == 0) = true then
       (if (n.Kind == 6) = true then
        (some true)
       else
        (if (n.Kind == 7) = true then
         (some true)
        else
         (some (n.Group == 0))))
      else
       (some false))
     else
      (some false)))
   else
    (if (decide (n.Set = (Arr.rep 4 0))) = true then
     (if (n.Kind == 5) = true then
      (if (n.Kind == 6) = true then
       (some true)
      else
       (if (n.Kind == 7) = true then
        (some true)
       else
        (some (n.Group == 0))))
     else
      (if (n.Min == 0) = true then
       (if (n.Max == 0) = true then
        (if (n.Kind == 6) = true then
         (some true)
        else
         (if (n.Kind == 7) = true then
          (some true)
         else
          (some (n.Group == 0))))
       else
        (some false))
      else
       (some false)))
    else
     (some false)))
  else
   (some false))
def M31 (x : St31) (r : Bool) : Prop := match x with
 | .p1 n kids want => ∀ (tm : Fr) (st : Store), Frm tm [(0, .dptr (c27 n)), (3, AV.int .i64 kids), (4, AV.int .i64 want)] → SH st [] → W (X31 r) [.code C31_58] tm st
theorem w31 : ∀ (x : St31) (r : Bool), G31 x = some r → M31 x r := by
 intro x r hF
 cases x with
 | p1 n kids want =>
  dsimp only [G31] at hF
  intro tm st hf hs
  refine en hf ?_
  refine rn 4 rfl ?_
  refine bi hF (fun c_15 hF => ?_) (fun c_15 hF => ?_)
  · refine wfx 69 rfl c_15 ?_
    refine rn 1 rfl ?_
    refine W.on rfl rfl ?_
    refine W.o (e_nilckD rfl) ?_
    refine W.on rfl rfl ?_
    refine W.o (e_faddrD rfl) ?_
    refine W.on rfl rfl ?_
    refine W.o (e_load1D rfl (DP.fld (DP.refl _) (lrg27_Kind n))) ?_
    refine rn 2 rfl ?_
    refine bi hF (fun c_16 hF => ?_) (fun c_16 hF => ?_)
    · refine wfx 75 rfl c_16 ?_
      refine rn 10 rfl ?_
      refine W.on rfl rfl ?_
      refine W.o (e_nilckD rfl) ?_
      refine W.on rfl rfl ?_
      refine W.o (e_faddrD rfl) ?_
      refine W.on rfl rfl ?_
      refine W.o (e_load1D rfl (DP.fld (DP.refl _) (lrg27_Kind n))) ?_
      refine rn 2 rfl ?_
      refine bi hF (fun c_17 hF => ?_) (fun c_17 hF => ?_)
      · refine wfx 90 rfl c_17 ?_
        refine rn 16 rfl ?_
        refine W.on rfl rfl ?_
        refine W.o (e_nilckD rfl) ?_
        refine W.on rfl rfl ?_
        refine W.o (e_faddrD rfl) ?_
        refine W.on rfl rfl ?_
        refine W.o (e_load1D rfl (DP.fld (DP.refl _) (lrg27_Kind n))) ?_
        refine rn 2 rfl ?_
        refine bi hF (fun c_18 hF => ?_) (fun c_18 hF => ?_)
        · refine wfx 111 rfl c_18 ?_
          refine rn 15 rfl ?_
          cases hF
          exact rD (rlt rl0) rfl
        · refine wfx 111 rfl c_18 ?_
          refine rn 1 rfl ?_
          refine W.on rfl rfl ?_
          refine W.o (e_nilckD rfl) ?_
          refine W.on rfl rfl ?_
          refine W.o (e_faddrD rfl) ?_
          refine W.on rfl rfl ?_
          refine W.o (e_load1D rfl (DP.fld (DP.refl _) (lrg27_Kind n))) ?_
          refine rn 3 rfl ?_
          refine bi hF (fun c_19 hF => ?_) (fun c_19 hF => ?_)
          · refine wfx 118 rfl c_19 ?_
            refine rn 8 rfl ?_
            cases hF
            exact rD (rlt rl0) rfl
          · refine wfx 118 rfl c_19 ?_
            refine rn 1 rfl ?_
            refine W.on rfl rfl ?_
            refine W.o (e_nilckD rfl) ?_
            refine W.on rfl rfl ?_
            refine W.o (e_faddrD rfl) ?_
            refine W.on rfl rfl ?_
            refine W.o (e_load1D rfl (DP.fld (DP.refl _) (lrg27_Group n))) ?_
            refine rn 4 rfl ?_
            cases hF
            exact rD (rlt rl0) rfl
      · refine wfx 90 rfl c_17 ?_
        refine rn 1 rfl ?_
        refine W.on rfl rfl ?_
        refine W.o (e_nilckD rfl) ?_
        refine W.on rfl rfl ?_
        refine W.o (e_faddrD rfl) ?_
        refine W.on rfl rfl ?_
        refine W.o (e_load1D rfl (DP.fld (DP.refl _) (lrg27_Min n))) ?_
        refine rn 2 rfl ?_
        refine bi hF (fun c_20 hF => ?_) (fun c_20 hF => ?_)
        · refine wfx 96 rfl c_20 ?_
          refine rn 1 rfl ?_
          refine W.on rfl rfl ?_
          refine W.o (e_nilckD rfl) ?_
          refine W.on rfl rfl ?_
          refine W.o (e_faddrD rfl) ?_
          refine W.on rfl rfl ?_
          refine W.o (e_load1D rfl (DP.fld (DP.refl _) (lrg27_Max n))) ?_
          refine rn 5 rfl ?_
          refine bi hF (fun c_21 hF => ?_) (fun c_21 hF => ?_)
          · refine wfx 105 rfl c_21 ?_
            refine rn 1 rfl ?_
            refine W.on rfl rfl ?_
            refine W.o (e_nilckD rfl) ?_
            refine W.on rfl rfl ?_
            refine W.o (e_faddrD rfl) ?_
            refine W.on rfl rfl ?_
            refine W.o (e_load1D rfl (DP.fld (DP.refl _) (lrg27_Kind n))) ?_
            refine rn 2 rfl ?_
            refine bi hF (fun c_22 hF => ?_) (fun c_22 hF => ?_)
            · refine wfx 111 rfl c_22 ?_
              refine rn 15 rfl ?_
              cases hF
              exact rD (rlt rl0) rfl
            · refine wfx 111 rfl c_22 ?_
              refine rn 1 rfl ?_
              refine W.on rfl rfl ?_
              refine W.o (e_nilckD rfl) ?_
              refine W.on rfl rfl ?_
              refine W.o (e_faddrD rfl) ?_
              refine W.on rfl rfl ?_
              refine W.o (e_load1D rfl (DP.fld (DP.refl _) (lrg27_Kind n))) ?_
              refine rn 3 rfl ?_
              refine bi hF (fun c_23 hF => ?_) (fun c_23 hF => ?_)
              · refine wfx 118 rfl c_23 ?_
                refine rn 8 rfl ?_
                cases hF
                exact rD (rlt rl0) rfl
              · refine wfx 118 rfl c_23 ?_
                refine rn 1 rfl ?_
                refine W.on rfl rfl ?_
                refine W.o (e_nilckD rfl) ?_
                refine W.on rfl rfl ?_
                refine W.o (e_faddrD rfl) ?_
                refine W.on rfl rfl ?_
                refine W.o (e_load1D rfl (DP.fld (DP.refl _) (lrg27_Group n))) ?_
                refine rn 4 rfl ?_
                cases hF
                exact rD (rlt rl0) rfl
          · refine wfx 105 rfl c_21 ?_
            refine rn 21 rfl ?_
            cases hF
            exact rD (rlt rl0) rfl
        · refine wfx 96 rfl c_20 ?_
          refine rn 30 rfl ?_
          cases hF
          exact rD (rlt rl0) rfl
    · refine wfx 75 rfl c_16 ?_
      refine rn 1 rfl ?_
      refine W.on rfl rfl ?_
      refine W.o (e_nilckD rfl) ?_
      refine W.on rfl rfl ?_
      refine W.o (e_faddrD rfl) ?_
      refine W.on rfl rfl ?_
      refine W.o (e_loadND rfl (DP.fld (DP.refl _) (lrg27_Set n)) (c24_len _)) ?_
      refine W.on rfl rfl ?_
      refine W.o (e_build (z := [(.int .u64 0), (.int .u64 0), (.int .u64 0), (.int .u64 0)]) (cs := c24 (Arr.rep 4 0)) pk_nil (show fillA (c24 (Arr.rep 4 0)) _ = _ from (fl_nil _))) ?_
      refine W.on rfl rfl ?_
      refine W.o (e_eqA rfl rfl (c24_eq n.Set (Arr.rep 4 0))) ?_
      refine rn 3 rfl ?_
      refine bi hF (fun c_24 hF => ?_) (fun c_24 hF => ?_)
      · refine wfx 84 rfl c_24 ?_
        refine rn 1 rfl ?_
        refine W.on rfl rfl ?_
        refine W.o (e_nilckD rfl) ?_
        refine W.on rfl rfl ?_
        refine W.o (e_faddrD rfl) ?_
        refine W.on rfl rfl ?_
        refine W.o (e_load1D rfl (DP.fld (DP.refl _) (lrg27_Kind n))) ?_
        refine rn 2 rfl ?_
        refine bi hF (fun c_25 hF => ?_) (fun c_25 hF => ?_)
        · refine wfx 90 rfl c_25 ?_
          refine rn 16 rfl ?_
          refine W.on rfl rfl ?_
          refine W.o (e_nilckD rfl) ?_
          refine W.on rfl rfl ?_
          refine W.o (e_faddrD rfl) ?_
          refine W.on rfl rfl ?_
          refine W.o (e_load1D rfl (DP.fld (DP.refl _) (lrg27_Kind n))) ?_
          refine rn 2 rfl ?_
          refine bi hF (fun c_26 hF => ?_) (fun c_26 hF => ?_)
          · refine wfx 111 rfl c_26 ?_
            refine rn 15 rfl ?_
            cases hF
            exact rD (rlt rl0) rfl
          · refine wfx 111 rfl c_26 ?_
            refine rn 1 rfl ?_
            refine W.on rfl rfl ?_
            refine W.o (e_nilckD rfl) ?_
            refine W.on rfl rfl ?_
            refine W.o (e_faddrD rfl) ?_
            refine W.on rfl rfl ?_
            refine W.o (e_load1D rfl (DP.fld (DP.refl _) (lrg27_Kind n))) ?_
            refine rn 3 rfl ?_
            refine bi hF (fun c_27 hF => ?_) (fun c_27 hF => ?_)
            · refine wfx 118 rfl c_27 ?_
              refine rn 8 rfl ?_
              cases hF
              exact rD (rlt rl0) rfl
            · refine wfx 118 rfl c_27 ?_
              refine rn 1 rfl ?_
              refine W.on rfl rfl ?_
              refine W.o (e_nilckD rfl) ?_
              refine W.on rfl rfl ?_
              refine W.o (e_faddrD rfl) ?_
              refine W.on rfl rfl ?_
              refine W.o (e_load1D rfl (DP.fld (DP.refl _) (lrg27_Group n))) ?_
              refine rn 4 rfl ?_
              cases hF
              exact rD (rlt rl0) rfl
        · refine wfx 90 rfl c_25 ?_
          refine rn 1 rfl ?_
          refine W.on rfl rfl ?_
          refine W.o (e_nilckD rfl) ?_
          refine W.on rfl rfl ?_
          refine W.o (e_faddrD rfl) ?_
          refine W.on rfl rfl ?_
          refine W.o (e_load1D rfl (DP.fld (DP.refl _) (lrg27_Min n))) ?_
          refine rn 2 rfl ?_
          refine bi hF (fun c_28 hF => ?_) (fun c_28 hF => ?_)
          · refine wfx 96 rfl c_28 ?_
            refine rn 1 rfl ?_
            refine W.on rfl rfl ?_
            refine W.o (e_nilckD rfl) ?_
            refine W.on rfl rfl ?_
            refine W.o (e_faddrD rfl) ?_
            refine W.on rfl rfl ?_
            refine W.o (e_load1D rfl (DP.fld (DP.refl _) (lrg27_Max n))) ?_
            refine rn 5 rfl ?_
            refine bi hF (fun c_29 hF => ?_) (fun c_29 hF => ?_)
            · refine wfx 105 rfl c_29 ?_
              refine rn 1 rfl ?_
              refine W.on rfl rfl ?_
              refine W.o (e_nilckD rfl) ?_
              refine W.on rfl rfl ?_
              refine W.o (e_faddrD rfl) ?_
              refine W.on rfl rfl ?_
              refine W.o (e_load1D rfl (DP.fld (DP.refl _) (lrg27_Kind n))) ?_
              refine rn 2 rfl ?_
              refine bi hF (fun c_30 hF => ?_) (fun c_30 hF => ?_)
              · refine wfx 111 rfl c_30 ?_
                refine rn 15 rfl ?_
                cases hF
                exact rD (rlt rl0) rfl
              · refine wfx 111 rfl c_30 ?_
                refine rn 1 rfl ?_
                refine W.on rfl rfl ?_
                refine W.o (e_nilckD rfl) ?_
                refine W.on rfl rfl ?_
                refine W.o (e_faddrD rfl) ?_
                refine W.on rfl rfl ?_
                refine W.o (e_load1D rfl (DP.fld (DP.refl _) (lrg27_Kind n))) ?_
                refine rn 3 rfl ?_
                refine bi hF (fun c_31 hF => ?_) (fun c_31 hF => ?_)
                · refine wfx 118 rfl c_31 ?_
                  refine rn 8 rfl ?_
                  cases hF
                  exact rD (rlt rl0) rfl
                · refine wfx 118 rfl c_31 ?_
                  refine rn 1 rfl ?_
                  refine W.on rfl rfl ?_
                  refine W.o (e_nilckD rfl) ?_
                  refine W.on rfl rfl ?_
                  refine W.o (e_faddrD rfl) ?_
                  refine W.on rfl rfl ?_
                  refine W.o (e_load1D rfl (DP.fld (DP.refl _) (lrg27_Group n))) ?_
                  refine rn 4 rfl ?_
                  cases hF
                  exact rD (rlt rl0) rfl
            · refine wfx 105 rfl c_29 ?_
              refine rn 21 rfl ?_
              cases hF
              exact rD (rlt rl0) rfl
          · refine wfx 96 rfl c_28 ?_
            refine rn 30 rfl ?_
            cases hF
            exact rD (rlt rl0) rfl
      · refine wfx 84 rfl c_24 ?_
        refine rn 42 rfl ?_
        cases hF
        exact rD (rlt rl0) rfl
  · refine wfx 69 rfl c_15 ?_
    refine rn 57 rfl ?_
    cases hF
    exact rD (rlt rl0) rfl
noncomputable def F31 (n : T27) : Option Bool :=
 (if (n.Kind == 3) = true then
  (G31 (.p1 n ((ls n.Kids).length : Int) (if 2 > ((ls n.Kids).length : Int) then 2 else ((ls n.Kids).length : Int))))
 else
  (if (n.Kind == 4) = true then
   (G31 (.p1 n ((ls n.Kids).length : Int) (if 2 > ((ls n.Kids).length : Int) then 2 else ((ls n.Kids).length : Int))))
  else
   (if (n.Kind == 5) = true then
    (if (decide (n.Min < 0)) = true then
     (some false)
    else
     (if (decide (n.Min > 255)) = true then
      (some false)
     else
      (if (n.Max != (-1)) = true then
       (if (decide (n.Max < n.Min)) = true then
        (some false)
       else
        (if (decide (n.Max > 255)) = true then
         (some false)
        else
         (G31 (.p1 n ((ls n.Kids).length : Int) 1))))
      else
       (G31 (.p1 n ((ls n.Kids).length : Int) 1)))))
   else
    (if (n.Kind == 6) = true then
     (G31 (.p1 n ((ls n.Kids).length : Int) 1))
    else
     (if (n.Kind == 1) = true then
      (G31 (.p1 n ((ls n.Kids).length : Int) 0))
     else
      (if (n.Kind == 2) = true then
       (G31 (.p1 n ((ls n.Kids).length : Int) 0))
      else
       (if (n.Kind == 7) = true then
        (G31 (.p1 n ((ls n.Kids).length : Int) 0))
       else
        (if (n.Kind == 8) = true then
         (G31 (.p1 n ((ls n.Kids).length : Int) 0))
        else
         (if (n.Kind == 9) = true then
          (G31 (.p1 n ((ls n.Kids).length : Int) 0))
         else
          (some false))))))))))
theorem d31 (n : T27) (r : Bool) (hF : F31 n = some r) : DFun Try.prog noG 31 [.dptr (c27 n)] (AV.bool r) := by
 unfold F31 at hF
 refine bD k31 rfl ?_
 have hs : SH [] [] := SH.nil
 generalize ([] : Store) = st at hs ⊢
 refine rn 2 rfl ?_
 refine W.o (e_nilckD rfl) ?_
 refine W.o (e_faddrD rfl) ?_
 refine W.o (e_load1D rfl (DP.fld (DP.refl _) (lrg27_Kids n))) ?_
 refine W.o (e_len (rd_V rfl)) ?_
 refine rn 3 rfl ?_
 refine W.o (e_nilckD rfl) ?_
 refine W.o (e_faddrD rfl) ?_
 refine W.o (e_load1D rfl (DP.fld (DP.refl _) (lrg27_Kind n))) ?_
 refine rn 2 rfl ?_
 refine ci hF rfl (fun c_1 hF => ?_) (fun c_1 hF => ?_)
 · refine rn 0 rfl ?_
   refine ct rfl c_1 ?_
   refine rj 3 2 rfl ?_
   exact w31 (.p1 n ((ls n.Kids).length : Int) (if 2 > ((ls n.Kids).length : Int) then 2 else ((ls n.Kids).length : Int))) _ hF _ _ ⟨rfl, rfl, rfl, trivial⟩ hs
 · refine rn 2 rfl ?_
   refine ci hF rfl (fun c_2 hF => ?_) (fun c_2 hF => ?_)
   · refine rj 3 2 rfl ?_
     exact w31 (.p1 n ((ls n.Kids).length : Int) (if 2 > ((ls n.Kids).length : Int) then 2 else ((ls n.Kids).length : Int))) _ hF _ _ ⟨rfl, rfl, rfl, trivial⟩ hs
   · refine rn 2 rfl ?_
     refine ci hF rfl (fun c_3 hF => ?_) (fun c_3 hF => ?_)
     · refine rn 1 rfl ?_
       have h0 := hs
       refine dr0 ?_
       refine dn 1 rfl ?_
       refine de rfl (e_nilckD rfl) ?_
       refine de rfl (e_faddrD rfl) ?_
       refine de rfl (e_load1D rfl (DP.fld (DP.refl _) (lrg27_Min n))) ?_
       refine dn 2 rfl ?_
       refine bi hF (fun c_4 hF => ?_) (fun c_4 hF => ?_)
       · refine dfx 26 rfl c_4 ?_
         refine dn 31 rfl ?_
         refine dz ?_
         refine rn 0 rfl ?_
         refine ct rfl rfl ?_
         refine rn 1 rfl ?_
         cases hF
         exact rD (rlt rl0) rfl
       · refine dfx 26 rfl c_4 ?_
         refine dn 1 rfl ?_
         refine don rfl rfl ?_
         refine de rfl (e_nilckD rfl) ?_
         refine don rfl rfl ?_
         refine de rfl (e_faddrD rfl) ?_
         refine don rfl rfl ?_
         refine de rfl (e_load1D rfl (DP.fld (DP.refl _) (lrg27_Min n))) ?_
         refine dn 3 rfl ?_
         refine bi hF (fun c_5 hF => ?_) (fun c_5 hF => ?_)
         · refine dfx 33 rfl c_5 ?_
           refine dn 24 rfl ?_
           refine dz ?_
           refine rn 0 rfl ?_
           refine ct rfl rfl ?_
           refine rn 1 rfl ?_
           cases hF
           exact rD (rlt rl0) rfl
         · refine dfx 33 rfl c_5 ?_
           refine dn 1 rfl ?_
           refine don rfl rfl ?_
           refine de rfl (e_nilckD rfl) ?_
           refine don rfl rfl ?_
           refine de rfl (e_faddrD rfl) ?_
           refine don rfl rfl ?_
           refine de rfl (e_load1D rfl (DP.fld (DP.refl _) (lrg27_Max n))) ?_
           refine dn 2 rfl ?_
           refine bi hF (fun c_6 hF => ?_) (fun c_6 hF => ?_)
           · refine dfx 39 rfl c_6 ?_
             refine dn 1 rfl ?_
             refine don rfl rfl ?_
             refine de rfl (e_nilckD rfl) ?_
             refine don rfl rfl ?_
             refine de rfl (e_faddrD rfl) ?_
             refine don rfl rfl ?_
             refine de rfl (e_load1D rfl (DP.fld (DP.refl _) (lrg27_Max n))) ?_
             refine dn 1 rfl ?_
             refine don rfl rfl ?_
             refine de rfl (e_nilckD rfl) ?_
             refine don rfl rfl ?_
             refine de rfl (e_faddrD rfl) ?_
             refine don rfl rfl ?_
             refine de rfl (e_load1D rfl (DP.fld (DP.refl _) (lrg27_Min n))) ?_
             refine dn 2 rfl ?_
             refine bi hF (fun c_7 hF => ?_) (fun c_7 hF => ?_)
             · refine dfx 49 rfl c_7 ?_
               refine dn 8 rfl ?_
               refine dz ?_
               refine rn 0 rfl ?_
               refine ct rfl rfl ?_
               refine rn 1 rfl ?_
               cases hF
               exact rD (rlt rl0) rfl
             · refine dfx 49 rfl c_7 ?_
               refine dn 1 rfl ?_
               refine don rfl rfl ?_
               refine de rfl (e_nilckD rfl) ?_
               refine don rfl rfl ?_
               refine de rfl (e_faddrD rfl) ?_
               refine don rfl rfl ?_
               refine de rfl (e_load1D rfl (DP.fld (DP.refl _) (lrg27_Max n))) ?_
               refine dn 4 rfl ?_
               refine dz ?_
               refine rn 0 rfl ?_
               refine ci hF rfl (fun c_8 hF => ?_) (fun c_8 hF => ?_)
               · refine rn 1 rfl ?_
                 cases hF
                 exact rD (rlt rl0) rfl
               · refine rj 0 2 rfl ?_
                 exact w31 (.p1 n ((ls n.Kids).length : Int) 1) _ hF _ _ ⟨rfl, rfl, rfl, trivial⟩ hs
           · refine dfx 39 rfl c_6 ?_
             refine dn 18 rfl ?_
             refine dz ?_
             refine rn 0 rfl ?_
             refine cf rfl rfl ?_
             refine rj 0 2 rfl ?_
             exact w31 (.p1 n ((ls n.Kids).length : Int) 1) _ hF _ _ ⟨rfl, rfl, rfl, trivial⟩ hs
     · refine rn 2 rfl ?_
       refine ci hF rfl (fun c_9 hF => ?_) (fun c_9 hF => ?_)
       · refine rj 1 2 rfl ?_
         exact w31 (.p1 n ((ls n.Kids).length : Int) 1) _ hF _ _ ⟨rfl, rfl, rfl, trivial⟩ hs
       · refine rn 2 rfl ?_
         refine ci hF rfl (fun c_10 hF => ?_) (fun c_10 hF => ?_)
         · refine rn 0 rfl ?_
           refine ct rfl c_10 ?_
           refine rj 0 2 rfl ?_
           exact w31 (.p1 n ((ls n.Kids).length : Int) 0) _ hF _ _ ⟨rfl, rfl, rfl, trivial⟩ hs
         · refine rn 2 rfl ?_
           refine ci hF rfl (fun c_11 hF => ?_) (fun c_11 hF => ?_)
           · refine rn 0 rfl ?_
             refine ct rfl c_11 ?_
             refine rj 0 2 rfl ?_
             exact w31 (.p1 n ((ls n.Kids).length : Int) 0) _ hF _ _ ⟨rfl, rfl, rfl, trivial⟩ hs
           · refine rn 2 rfl ?_
             refine ci hF rfl (fun c_12 hF => ?_) (fun c_12 hF => ?_)
             · refine rn 0 rfl ?_
               refine ct rfl c_12 ?_
               refine rj 0 2 rfl ?_
               exact w31 (.p1 n ((ls n.Kids).length : Int) 0) _ hF _ _ ⟨rfl, rfl, rfl, trivial⟩ hs
             · refine rn 2 rfl ?_
               refine ci hF rfl (fun c_13 hF => ?_) (fun c_13 hF => ?_)
               · refine rn 0 rfl ?_
                 refine ct rfl c_13 ?_
                 refine rj 0 2 rfl ?_
                 exact w31 (.p1 n ((ls n.Kids).length : Int) 0) _ hF _ _ ⟨rfl, rfl, rfl, trivial⟩ hs
               · refine rn 2 rfl ?_
                 refine ci hF rfl (fun c_14 hF => ?_) (fun c_14 hF => ?_)
                 · refine rj 0 2 rfl ?_
                   exact w31 (.p1 n ((ls n.Kids).length : Int) 0) _ hF _ _ ⟨rfl, rfl, rfl, trivial⟩ hs
                 · refine rn 1 rfl ?_
                   cases hF
                   exact rD (rlt rl0) rfl
/-! ### 38: paddock/nfa.groups -/
def C38_34 : ACode := .ops [q 41 (.mv 5), q 42 (.mv 9), q 43 (.max [41, 42]), q 5 (.mv 43)]
def C38_24 : ACode := .s (.ops [q 22 (.iaddrL 9 18 20), q 23 (.loadN 9 22), q 7 (.alloc [(.int .u8 0), (.int .u64 0), (.int .u64 0), (.int .u64 0), (.int .u64 0), (.int .i64 0), (.int .i64 0), (.int .i64 0), .nils]), q0 (.store 9 7 23)]) (.s (.ops [q 25 (.loadN 9 7), qc 26 38 [25], q 24 (.mv 26), q 27 (.extract 24 0), q 28 (.extract 24 1), q 8 (.mv 27), q 9 (.mv 28)]) (.s (.s (.ops [q 29 (.mv 8), q 30 (.binI .gtr 29 (ki 0)), q 31 (.mv 30), (q 32 (.mv 4)).y 31, (q 33 (.binI .eql 32 (ki 0))).y 31, (q 34 (.mv 33)).y 31, (q 35 (.mv 8)).n 34, (q 36 (.mv 4)).n 34, (q 37 (.binI .lss 35 36)).n 34, (q 38 (.pick 34 (.c (.bool true)) 37)).y 31, q 39 (.pick 31 38 (.c (.bool false)))]) (.cond 39 (.ops [q 40 (.mv 8), q 4 (.mv 40)]) .skip)) C38_34))
def C38_35 : ACode := .ops [q 44 (.binI .add 20 (ki 1)), q 20 (.mv 44)]
def C38_16 : ACode := .s (.ops [q 21 (.binI .lss 20 19)]) (.s (.cond 21 .skip (.exit 0)) (.s (.block 1 C38_24) C38_35))
def C38_36 : ACode := .s (.ops [q 45 (.mv 4), q 46 (.mv 5), q 2 (.mv 45), q 3 (.mv 46)]) .ret
def C38_11 : ACode := .s (.s (.ops [q 17 (.faddr 8 1), q 18 (.load1 17), q 19 (.len 18), q 20 (.mv (ki 0))]) (.block 0 (.loop C38_16))) C38_36
def C38_1 : ACode := .s (.ops [q 1 (.boxD 9 0), q 2 (.mv (ki 0)), q 3 (.mv (ki 0))]) (.s (.ops [q 4 (.mv (ki 0)), q 5 (.mv (ki 0))]) (.s (.s (.ops [q 10 (.faddr 0 1), q 11 (.load1 10), q 12 (.binI .eql 11 (ku 6))]) (.cond 12 (.draw [] 0 0 [q 13 (.faddr 7 1), q 14 (.load1 13), q 15 (.faddr 7 1), q 16 (.load1 15), q 4 (.mv 14), q 5 (.mv 16)] []) .skip)) C38_11))
def R38 : List RA := [(.tmp 2), (.tmp 3)]
theorem k38 : compF Try.prog (muL [1]) 38 = some ⟨47, C38_1, R38⟩ := by kernel_rfl
noncomputable abbrev X38 (r : Int × Int) : Cx := cD Try.prog noG 47 R38 (AV.tup [AV.int .i64 r.1, AV.int .i64 r.2]) [1]
inductive St38 where
 | e (n : T27)
 | p1 (n : T27) (low : Int) (high : Int)
 | p2 (low : Int) (high : Int) (t18_ : Sl T27) (t19_ : Int) (t20_ : Int)
 | p3 (low : Int) (high : Int) (b : Int) (t18_ : Sl T27) (t19_ : Int) (t20_ : Int)
noncomputable def G38 : St38 → Option (Int × Int)
 | .e n =>
  (if (n.Kind == 6) = true then
   (G38 (.p1 n n.Group n.Group))
  else
   (G38 (.p1 n 0 0)))
 | .p1 n low high =>
  (G38 (.p2 low high n.Kids ((ls n.Kids).length : Int) 0))
 | .p2 low high t18_ t19_ t20_ =>
  (if (decide (t20_ < t19_)) = true then
   (ix (ls t18_) t20_ >>= fun v_3 =>
    (G38 (.e v_3) >>= fun r_6 =>
     (if (decide (r_6.1 > 0)) = true then
      (if (low == 0) = true then
       (G38 (.p3 r_6.1 high r_6.2 t18_ t19_ t20_))
      else
       (if (decide (r_6.1 < low)) = true then
        (G38 (.p3 r_6.1 high r_6.2 t18_ t19_ t20_))
       else
        (G38 (.p3 low high r_6.2 t18_ t19_ t20_))))
     else
      (G38 (.p3 low high r_6.2 t18_ t19_ t20_)))))
  else
   (some (low, high)))
 | .p3 low high b t18_ t19_ t20_ =>
  (G38 (.p2 low (if b > high then b else high) t18_ t19_ (IntKind.wrap .i64 (t20_ + 1))))
 partial_fixpoint
def M38 (x : St38) (r : Int × Int) : Prop := match x with
 | .e n => DFun Try.prog noG 38 [v27 n] (AV.tup [AV.int .i64 r.1, AV.int .i64 r.2])
 | .p1 n low high => ∀ (tm : Fr) (st : Store), Frm tm [(1, .dptr (c27 n)), (4, AV.int .i64 low), (5, AV.int .i64 high)] → SH st [] → W (X38 r) [.code C38_11] tm st
 | .p2 low high t18_ t19_ t20_ => ∀ (tm : Fr) (st : Store), Frm tm [(4, AV.int .i64 low), (5, AV.int .i64 high), (18, slV 9 v27 t18_), (19, AV.int .i64 t19_), (20, AV.int .i64 t20_)] → SH st [] → W (X38 r) [.lp C38_16, .blk 0, .code C38_36] tm st
 | .p3 low high b t18_ t19_ t20_ => ∀ (tm : Fr) (st : Store), Frm tm [(4, AV.int .i64 low), (5, AV.int .i64 high), (9, AV.int .i64 b), (18, slV 9 v27 t18_), (19, AV.int .i64 t19_), (20, AV.int .i64 t20_)] → SH st [] → W (X38 r) [.code C38_34, .blk 1, .code C38_35, .lp C38_16, .blk 0, .code C38_36] tm st
theorem w38 : ∀ (x : St38) (r : Int × Int), G38 x = some r → M38 x r := by
 refine G38.partial_correctness (M38) ?_
 intro g ih x r hF
 cases x with
 | e n =>
  dsimp only at hF
  refine bD k38 rfl ?_
  have hs : SH [] [] := SH.nil
  generalize ([] : Store) = st at hs ⊢
  refine rn 0 rfl ?_
  refine W.o (e_boxD (cs := c27 n) rfl (by rw [c27_len]; rfl) (c27_one _)) ?_
  refine rn 4 rfl ?_
  refine W.o (e_faddrD rfl) ?_
  refine W.o (e_load1D rfl (DP.fld (DP.refl _) (lrg27_Kind n))) ?_
  refine rn 1 rfl ?_
  refine ci hF rfl (fun c_1 hF => ?_) (fun c_1 hF => ?_)
  · have h0 := hs
    refine dr0 ?_
    refine de rfl (e_faddrD rfl) ?_
    refine de rfl (e_load1D rfl (DP.fld (DP.refl _) (lrg27_Group n))) ?_
    refine de rfl (e_faddrD rfl) ?_
    refine de rfl (e_load1D rfl (DP.fld (DP.refl _) (lrg27_Group n))) ?_
    refine dn 2 rfl ?_
    refine dz ?_
    refine rj 0 1 rfl ?_
    exact ih (.p1 n n.Group n.Group) _ hF _ _ ⟨rfl, rfl, rfl, trivial⟩ hs
  · refine rj 0 1 rfl ?_
    exact ih (.p1 n 0 0) _ hF _ _ ⟨rfl, rfl, rfl, trivial⟩ hs
 | p1 n low high =>
  dsimp only at hF
  intro tm st hf hs
  refine en hf ?_
  refine rn 0 rfl ?_
  refine W.o (e_faddrD rfl) ?_
  refine W.o (e_load1D rfl (DP.fld (DP.refl _) (lrg27_Kids n))) ?_
  refine W.o (e_len (rd_V rfl)) ?_
  refine rn 1 rfl ?_
  exact ih (.p2 low high n.Kids ((ls n.Kids).length : Int) 0) _ hF _ _ ⟨rfl, rfl, rfl, rfl, rfl, trivial⟩ hs
 | p2 low high t18_ t19_ t20_ =>
  dsimp only at hF
  intro tm st hf hs
  refine en hf ?_
  refine lp ?_
  refine rn 1 rfl ?_
  refine ci hF rfl (fun c_2 hF => ?_) (fun c_2 hF => ?_)
  · obtain ⟨v_3, g_4, hF⟩ := bind_some hF
    refine rn 0 rfl ?_
    refine W.o (e_iaddrL (rd_V rfl) rfl g_4) ?_
    refine W.o (e_loadND rfl (DP.refl _) (c27_len _)) ?_
    refine al hs (cs := c27 ({ Kind := 0, Set := (Arr.rep 4 0), Min := 0, Max := 0, Group := 0, Kids := none } : T27)) rfl fun st b_5 hs => ?_
    refine sl hs 0 rfl rfl (LR.whole _ _) (c27_len _) rfl (c27_len _) (c27_one _) rfl fun st hs => ?_
    refine rn 0 rfl ?_
    refine W.o (e_loadN rfl (hs.g 0 rfl) (LR.whole _ _) (c27_len _)) ?_
    obtain ⟨r_6, g_7, hF⟩ := bind_some hF
    refine df (ih (.e v_3) _ g_7) rfl ?_
    refine rn 8 rfl ?_
    refine bi hF (fun c_8 hF => ?_) (fun c_8 hF => ?_)
    · refine wfx 31 rfl c_8 ?_
      refine rn 3 rfl ?_
      refine bi hF (fun c_9 hF => ?_) (fun c_9 hF => ?_)
      · refine wfx 34 rfl c_9 ?_
        refine rn 5 rfl ?_
        refine ct rfl rfl ?_
        refine rj 2 1 rfl ?_
        exact ih (.p3 r_6.1 high r_6.2 t18_ t19_ t20_) _ hF _ _ ⟨rfl, rfl, rfl, rfl, rfl, rfl, trivial⟩ (hs.p 1 [] rfl)
      · refine wfx 34 rfl c_9 ?_
        refine rn 5 rfl ?_
        refine ci hF rfl (fun c_10 hF => ?_) (fun c_10 hF => ?_)
        · refine rj 2 1 rfl ?_
          exact ih (.p3 r_6.1 high r_6.2 t18_ t19_ t20_) _ hF _ _ ⟨rfl, rfl, rfl, rfl, rfl, rfl, trivial⟩ (hs.p 1 [] rfl)
        · refine rj 0 1 rfl ?_
          exact ih (.p3 low high r_6.2 t18_ t19_ t20_) _ hF _ _ ⟨rfl, rfl, rfl, rfl, rfl, rfl, trivial⟩ (hs.p 1 [] rfl)
    · refine wfx 31 rfl c_8 ?_
      refine rn 8 rfl ?_
      refine cf rfl rfl ?_
      refine rj 0 1 rfl ?_
      exact ih (.p3 low high r_6.2 t18_ t19_ t20_) _ hF _ _ ⟨rfl, rfl, rfl, rfl, rfl, rfl, trivial⟩ (hs.p 1 [] rfl)
  · refine rn 4 rfl ?_
    cases hF
    exact rD (rlt (rlt rl0)) rfl
 | p3 low high b t18_ t19_ t20_ =>
  dsimp only at hF
  intro tm st hf hs
  refine en hf ?_
  refine rn 6 rfl ?_
  exact ih (.p2 low (if b > high then b else high) t18_ t19_ (IntKind.wrap .i64 (t20_ + 1))) _ hF _ _ ⟨rfl, rfl, rfl, rfl, rfl, trivial⟩ hs
noncomputable def F38 (n : T27) : Option (Int × Int) := G38 (.e n)
theorem d38 (n : T27) (r : Int × Int) (hF : F38 n = some r) : DFun Try.prog noG 38 [v27 n] (AV.tup [AV.int .i64 r.1, AV.int .i64 r.2]) := by
 exact w38 (.e n) r hF
/-! ### 29: paddock/posix.each -/
def C29_1 : ACode := .s (.ops [q 1 (.boxD 1 0), q 2 (.mv (.c .nilfn))]) (.s (.ops [q 3 (.mkfn 40 [1]), q 2 (.mv 3)]) .ret)
def R29 : List RA := [(.tmp 2)]
theorem k29 : compF Try.prog (muL [1]) 29 = some ⟨4, C29_1, R29⟩ := by kernel_rfl
noncomputable abbrev X29 (r : T27) : Cx := cD Try.prog noG 4 R29 (.fn 40 [.dptr [.dptr (c27 r)]]) [1]
noncomputable def F29 (n : T27) : Option T27 :=
 (some n)
theorem d29 (n : T27) (r : T27) (hF : F29 n = some r) : DFun Try.prog noG 29 [.dptr (c27 n)] (.fn 40 [.dptr [.dptr (c27 r)]]) := by
 unfold F29 at hF
 refine bD k29 rfl ?_
 have hs : SH [] [] := SH.nil
 generalize ([] : Store) = st at hs ⊢
 refine rn 0 rfl ?_
 refine W.o (e_boxD (cs := [.dptr (c27 n)]) rfl rfl rfl) ?_
 refine rn 3 rfl ?_
 cases hF
 exact rD (rlt rl0) rfl
/-! ### 41: paddock/posix.each$1$1 -/
def C41_26 : ACode := .s (.draw [] 0 0 [q 18 (.load1 2), q 19 (.mv 0), q 20 (.nilck 19), q 21 (.faddr 8 20), q 22 (.load1 21), q 23 (.mv 5), q 24 (.iaddrL 9 22 23)] [qf 25 18 [24], q 26 (.un .not 25)]) (.cond 26 (.s (.ops [q 4 (.mv (.c (.bool false)))]) .ret) .skip)
def C41_16 : ACode := .s (.ops [q 16 (.binI .lss 15 14)]) (.s (.cond 16 .skip (.exit 0)) (.s (.block 1 (.s (.ops [q 17 (.mv 15), q 5 (.mv 17)]) C41_26)) (.ops [q 27 (.binI .add 15 (ki 1)), q 15 (.mv 27)])))
def C41_34 : ACode := .s (.ops [q 4 (.mv (.c (.bool true)))]) .ret
def C41_1 : ACode := .s (.ops [q 4 (.mv (.c (.bool false)))]) (.s (.s (.ops [q 6 (.load1 1), q 7 (.mv 0), qf 8 6 [7], q 9 (.un .not 8)]) (.cond 9 (.s (.ops [q 4 (.mv (.c (.bool false)))]) .ret) .skip)) (.s (.s (.ops [q 10 (.mv 0), q 11 (.nilck 10), q 12 (.faddr 8 11), q 13 (.load1 12), q 14 (.len 13), q 15 (.mv (ki 0))]) (.block 0 (.loop C41_16))) C41_34))
def R41 : List RA := [(.tmp 4)]
theorem k41 : compF Try.prog (muL []) 41 = some ⟨28, C41_1, R41⟩ := by kernel_rfl
noncomputable abbrev X41 (K : AV → Store → Prop) : Cx := cK Try.prog noG 28 R41 (isK K)
inductive St41 (σ : Type) where
 | e (n : T27) (s_ : σ)
 | p1 (n : T27) (t14_ : Int) (t15_ : Int) (s_ : σ)
noncomputable def G41 {σ : Type} (Y : T27 → σ → Option (Bool × σ)) : St41 σ → Option (Bool × σ)
 | .e n s_ =>
  (Y n s_ >>= fun r_1 =>
   (if (!r_1.1) = true then
    (some (false, r_1.2))
   else
    (G41 Y (.p1 n ((ls n.Kids).length : Int) 0 r_1.2))))
 | .p1 n t14_ t15_ s_ =>
  (if (decide (t15_ < t14_)) = true then
   (ix (ls n.Kids) t15_ >>= fun v_5 =>
    (G41 Y (.e v_5 s_) >>= fun r_7 =>
     (if (!r_7.1) = true then
      (some (false, r_7.2))
     else
      (G41 Y (.p1 n t14_ (IntKind.wrap .i64 (t15_ + 1)) r_7.2)))))
  else
   (some (true, s_)))
 partial_fixpoint
def M41 {σ : Type} (H : σ → Asn) (iY0 : Nat) (x : St41 σ) (r : Bool × σ) : Prop := match x with
 | .e n s_ => ∀ (K : AV → Store → Prop) (Ls : List Asn) (iW1 : Nat), (∀ st, SH st (H r.2 :: pt iW1 (.cells [.fn 41 [.dptr [.yld iY0], .ptr iW1 0]]) :: Ls) → K (AV.bool r.1) st) → ∀ (st : Store), SH st (H s_ :: pt iW1 (.cells [.fn 41 [.dptr [.yld iY0], .ptr iW1 0]]) :: Ls) → XCall Try.prog noG 41 [.dptr (c27 n), .dptr [.yld iY0], .ptr iW1 0] st K
 | .p1 n t14_ t15_ s_ => ∀ (K : AV → Store → Prop) (Ls : List Asn) (iW1 : Nat), (∀ st, SH st (H r.2 :: pt iW1 (.cells [.fn 41 [.dptr [.yld iY0], .ptr iW1 0]]) :: Ls) → K (AV.bool r.1) st) → ∀ (tm : Fr) (st : Store), Frm tm [(0, .dptr (c27 n)), (2, .ptr iW1 0), (14, AV.int .i64 t14_), (15, AV.int .i64 t15_)] → SH st (H s_ :: pt iW1 (.cells [.fn 41 [.dptr [.yld iY0], .ptr iW1 0]]) :: Ls) → W (X41 K) [.lp C41_16, .blk 0, .code C41_34] tm st
theorem w41 {σ : Type} {H : σ → Asn} {Y : T27 → σ → Option (Bool × σ)} (iY0 : Nat) (hY : ∀ (x : T27) (s : σ) (r : Bool × σ), Y x s = some r → ∀ (K : AV → Store → Prop) (L : List Asn) (st : Store), SH st (H s :: L) → (∀ st, SH st (H r.2 :: L) → K (.bool r.1) st) → XYield Try.prog noG iY0 [.dptr (c27 x)] st K) : ∀ (x : St41 σ) (r : Bool × σ), G41 Y x = some r → M41 H iY0 x r := by
 refine G41.partial_correctness Y (M41 H iY0) ?_
 intro g ih x r hF
 cases x with
 | e n s_ =>
  dsimp only at hF
  intro K Ls iW1 hK  st hs
  refine bS k41 rfl ?_
  refine rn 1 rfl ?_
  refine W.o (l1D rfl rfl) ?_
  obtain ⟨r_1, g_2, hF⟩ := bind_some hF
  refine rn 1 rfl ?_
  refine cy rfl rfl (hY _ _ _ g_2 _ _ _ hs fun st hs => ?_)
  refine rn 1 rfl ?_
  refine ci hF rfl (fun c_3 hF => ?_) (fun c_3 hF => ?_)
  · refine rn 1 rfl ?_
    cases hF
    exact rS (rlt rl0) (hK _ hs) rfl
  · refine rn 1 rfl ?_
    refine W.o (e_nilckD rfl) ?_
    refine W.o (e_faddrD rfl) ?_
    refine W.o (e_load1D rfl (DP.fld (DP.refl _) (lrg27_Kids n))) ?_
    refine W.o (e_len (rd_V rfl)) ?_
    refine rn 1 rfl ?_
    exact ih (.p1 n ((ls n.Kids).length : Int) 0 r_1.2) _ hF K Ls iW1 hK _ _ ⟨rfl, rfl, rfl, rfl, trivial⟩ hs
 | p1 n t14_ t15_ s_ =>
  dsimp only at hF
  intro K Ls iW1 hK tm st hf hs
  refine en hf ?_
  refine lp ?_
  refine rn 1 rfl ?_
  refine ci hF rfl (fun c_4 hF => ?_) (fun c_4 hF => ?_)
  · refine rn 2 rfl ?_
    have h0 := hs
    refine dr0 ?_
    refine de rfl (l1 rfl (h0.g 1 rfl) rfl) ?_
    refine dn 1 rfl ?_
    refine de rfl (e_nilckD rfl) ?_
    refine de rfl (e_faddrD rfl) ?_
    refine de rfl (e_load1D rfl (DP.fld (DP.refl _) (lrg27_Kids n))) ?_
    obtain ⟨v_5, g_6, hF⟩ := bind_some hF
    refine dn 1 rfl ?_
    refine de rfl (e_iaddrL (rd_V rfl) rfl g_6) ?_
    refine dz ?_
    obtain ⟨r_7, g_8, hF⟩ := bind_some hF
    refine cv rfl (by kernel_rfl) (ale rfl) (ih (.e v_5 s_) _ g_8 _ _ iW1 (fun st hs => ?_) _ hs)
    refine rn 1 rfl ?_
    refine ci hF rfl (fun c_9 hF => ?_) (fun c_9 hF => ?_)
    · refine rn 1 rfl ?_
      cases hF
      exact rS (rlt rl0) (hK _ hs) rfl
    · refine rn 2 rfl ?_
      exact ih (.p1 n t14_ (IntKind.wrap .i64 (t15_ + 1)) r_7.2) _ hF K Ls iW1 hK _ _ ⟨rfl, rfl, rfl, rfl, trivial⟩ hs
  · refine rn 1 rfl ?_
    cases hF
    exact rS (rlt rl0) (hK _ hs) rfl
noncomputable def F41 {σ : Type} (Y : T27 → σ → Option (Bool × σ)) (n : T27) (s_ : σ) : Option (Bool × σ) := G41 Y (.e n s_)
theorem d41 {σ : Type} {H : σ → Asn} {Y : T27 → σ → Option (Bool × σ)} (iY0 : Nat) (hY : ∀ (x : T27) (s : σ) (r : Bool × σ), Y x s = some r → ∀ (K : AV → Store → Prop) (L : List Asn) (st : Store), SH st (H s :: L) → (∀ st, SH st (H r.2 :: L) → K (.bool r.1) st) → XYield Try.prog noG iY0 [.dptr (c27 x)] st K) (n : T27) (s_ : σ) (r : Bool × σ) (hF : F41 Y n s_ = some r) : ∀ (K : AV → Store → Prop) (Ls : List Asn) (iW1 : Nat), (∀ st, SH st (H r.2 :: pt iW1 (.cells [.fn 41 [.dptr [.yld iY0], .ptr iW1 0]]) :: Ls) → K (AV.bool r.1) st) → ∀ (st : Store), SH st (H s_ :: pt iW1 (.cells [.fn 41 [.dptr [.yld iY0], .ptr iW1 0]]) :: Ls) → XCall Try.prog noG 41 [.dptr (c27 n), .dptr [.yld iY0], .ptr iW1 0] st K := by
 exact (w41 iY0 hY) (.e n s_) r hF
/-! ### 40: paddock/posix.each$1 -/
def C40_1 : ACode := .s (.ops [q 2 (.boxD 1 0)]) (.s (.ops [q 3 (.alloc [.nilfn])]) (.s (.ops [q 4 (.mkfn 41 [2, 3]), q0 (.store 1 3 4)]) (.ops [q 5 (.load1 3), q 6 (.load1 1), qf 7 5 [6]])))
def R40 : List RA := []
theorem k40 : compF Try.prog (muL [2]) 40 = some ⟨8, C40_1, R40⟩ := by kernel_rfl
noncomputable abbrev X40 (K : AV → Store → Prop) : Cx := cK Try.prog noG 8 R40 (isK K) [2]
noncomputable def F40 {σ : Type} (Y : T27 → σ → Option (Bool × σ)) (d0_ : T27) (s_ : σ) : Option σ :=
 (F41 Y d0_ s_ >>= fun r_2 =>
  (some r_2.2))
theorem d40 {σ : Type} {H : σ → Asn} {Y : T27 → σ → Option (Bool × σ)} (iY0 : Nat) (hY : ∀ (x : T27) (s : σ) (r : Bool × σ), Y x s = some r → ∀ (K : AV → Store → Prop) (L : List Asn) (st : Store), SH st (H s :: L) → (∀ st, SH st (H r.2 :: L) → K (.bool r.1) st) → XYield Try.prog noG iY0 [.dptr (c27 x)] st K) (d0_ : T27) (s_ : σ) (r : σ) (hF : F40 Y d0_ s_ = some r) : ∀ (K : AV → Store → Prop) (Ls : List Asn), (∀ st, SH st (H r :: Ls) → K (AV.tup []) st) → ∀ (st : Store), SH st (H s_ :: Ls) → XCall Try.prog noG 40 [.yld iY0, .dptr [.dptr (c27 d0_)]] st K := by
 unfold F40 at hF
 intro K Ls hK  st hs
 refine bS k40 rfl ?_
 refine rn 0 rfl ?_
 refine W.o (e_boxD (cs := [.yld iY0]) rfl rfl rfl) ?_
 refine rn 0 rfl ?_
 refine al hs (cs := [.nilfn]) rfl fun st b_1 hs => ?_
 refine rn 1 rfl ?_
 refine sr hs 0 rfl rfl rfl (cs' := [.fn 41 [.dptr [.yld iY0], .ptr b_1 0]]) rfl rfl fun st hs => ?_
 refine rn 0 rfl ?_
 refine W.o (l1 rfl (hs.g 0 rfl) rfl) ?_
 refine W.o (l1D rfl rfl) ?_
 obtain ⟨r_2, g_3, hF⟩ := bind_some hF
 refine cv rfl (by kernel_rfl) (ale rfl) (d41 iY0 hY d0_ s_ _ g_3 _ _ b_1 (fun st hs => ?_) _ (hs.p 2 [1, 0] rfl))
 refine rn 0 rfl ?_
 cases hF
 exact eS rl0 (hK _ (hs.p 2 [0] rfl)) rfl
/-! ### 28: paddock/posix.Groups -/
def C28_10 : ACode := .ops [q 4 (.mv 6)]
def C28_11 : ACode := .block 1 (.s (.ops [q 7 (.mv 4), q 8 (.nilck 7), q 9 (.faddr 0 8), q 10 (.load1 9), q 11 (.binI .eql 10 (ku 6))]) (.cond 11 (.ops [q 12 (.load1 3), q 13 (.binI .add 12 (ki 1)), q0 (.store 1 3 13)]) .skip))
def C28_9 : ACode := .range 5 [6] C28_10 C28_11
def C28_17 : ACode := .s (.ops [q 14 (.load1 3), q 2 (.mv 14)]) .ret
def C28_1 : ACode := .s (.ops [q 1 (.boxD 9 0), q 2 (.mv (ki 0))]) (.s (.ops [q 3 (.alloc [(.int .i64 0)]), q0 (.store 1 3 (ki 0))]) (.s (.s (.ops [qc 5 29 [1]]) (.block 0 C28_9)) C28_17))
def R28 : List RA := [(.tmp 2)]
theorem k28 : compF Try.prog (muL [1]) 28 = some ⟨15, C28_1, R28⟩ := by kernel_rfl
noncomputable abbrev X28 (r : Int) : Cx := cD Try.prog noG 15 R28 (AV.int .i64 r) [1]
/-! round 28.1 -/
noncomputable def B28_1 (t2_ : Int) (t5_ : T27) (x : T27) (zz : Int × Nat) : Option (Bool × (Int × Nat)) := if zz.2 = 0 then
 (if (x.Kind == 6) = true then
  (some (true, (IntKind.wrap .i64 (zz.1 + 1), 0)))
 else
  (some (true, (zz.1, 0))))
else none
theorem b28_1 (t2_ : Int) (t5_ : T27) (x : T27) (zz : Int × Nat) (r : Bool × (Int × Nat)) (hF : B28_1 t2_ t5_ x zz = some r) (K : AV → Store → Prop) (Ls : List Asn) (iL : Nat) (ca cb : Code) (tm0 : Fr) (io0 : Nat) (q1 : compC Try.prog 15 (rnd (muL [1])) ca = some C28_10) (q2 : compC Try.prog 15 (rnd (muL [1])) cb = some C28_11) (hf : Frm tm0 [(2, AV.int .i64 t2_), (3, .ptr io0 0), (5, .fn 40 [.dptr [.dptr (c27 t5_)]])]) (hK : ∀ st, SH st (bun [pt iL (.loop 15 [6] ca cb tm0 (lsW r.2.2) (ljW [] r.2.2)), pt io0 (.cells (cI .i64 r.2.1))] :: Ls) → K (.bool r.1) st) (st : Store) (hs : SH st (bun [pt iL (.loop 15 [6] ca cb tm0 (lsW zz.2) (ljW [] zz.2)), pt io0 (.cells (cI .i64 zz.1))] :: Ls)) : XYield Try.prog noG iL [.dptr (c27 x)] st K := by
 unfold B28_1 at hF
 obtain ⟨c_, hF⟩ := grd_some hF
 replace hs : SH st ([pt iL (.loop 15 [6] ca cb tm0 (lsW zz.2) (ljW [] zz.2)), pt io0 (.cells (cI .i64 zz.1))] ++ Ls) := SH.unbun hs
 rw [c_] at hs
 replace hs : SH st (pt iL (.loop 15 [6] ca cb tm0 .ready none) :: pt io0 (.cells (cI .i64 zz.1)) :: Ls) := hs
 replace hK : (∀ st, SH st (pt iL (.loop 15 [6] ca cb tm0 (lsW r.2.2) (ljW [] r.2.2)) :: pt io0 (.cells (cI .i64 r.2.1)) :: Ls) → K (.bool r.1) st) := fun st hs => hK st (SH.bun hs)
 refine bR' (mu := [1]) q1 q2 hs rfl rfl (fun _ _ => trivial) ?_
 rw [putL1 hf]
 refine rn 1 rfl ?_
 refine rdW hs fun st hs => ?_
 refine rn 1 rfl ?_
 refine W.o (e_nilckD rfl) ?_
 refine W.o (e_faddrD rfl) ?_
 refine W.o (e_load1D rfl (DP.fld (DP.refl _) (lrg27_Kind x))) ?_
 refine rn 1 rfl ?_
 refine ci hF rfl (fun c_1 hF => ?_) (fun c_1 hF => ?_)
 · refine rn 0 rfl ?_
   refine W.o (l1 rfl (hs.g 1 rfl) rfl) ?_
   refine rn 1 rfl ?_
   refine sr hs 1 rfl rfl rfl (cs' := cI .i64 (IntKind.wrap .i64 (zz.1 + 1))) rfl rfl fun st hs => ?_
   refine rn 0 rfl ?_
   cases hF
   exact rdN hs (fun st hs => hK st hs)
 · refine rn 0 rfl ?_
   cases hF
   exact rdN hs (fun st hs => hK st hs)
inductive St28 where
 | p1 (t2_ : Int) (t5_ : T27) (k : Int)
noncomputable def G28 : St28 → Option Int
 | .p1 t2_ t5_ k =>
  (F40 (B28_1 t2_ t5_) t5_ (k, 0) >>= fun r_4 =>
   (if r_4.2 = 0 then
    (some r_4.1)
   else
    none))
def M28 (x : St28) (r : Int) : Prop := match x with
 | .p1 t2_ t5_ k => ∀ (tm : Fr) (st : Store) (io0 : Nat), Frm tm [(2, AV.int .i64 t2_), (3, .ptr io0 0), (5, .fn 40 [.dptr [.dptr (c27 t5_)]])] → SH st [pt io0 (.cells (cI .i64 k))] → W (X28 r) [.code C28_9, .blk 0, .code C28_17] tm st
theorem w28 : ∀ (x : St28) (r : Int), G28 x = some r → M28 x r := by
 intro x r hF
 cases x with
 | p1 t2_ t5_ k =>
  dsimp only [G28] at hF
  intro tm st io0 hf hs
  obtain ⟨r_4, g_5, hF⟩ := bind_some hF
  refine rg (N := 15) (fr := []) rfl hs hf.2.2.1 (by kernel_rfl) fun ca cb st iL q1 q2 hs => ?_
  refine d40 (σ := Int × Nat) (H := fun zz => bun [pt iL (.loop 15 [6] ca cb tm (lsW zz.2) (ljW [] zz.2)), pt io0 (.cells (cI .i64 zz.1))]) (Y := B28_1 t2_ t5_) iL (fun x zz r hB K L st hs hK => b28_1 t2_ t5_ x zz r hB K L iL ca cb tm io0 q1 q2 hf hK st hs) t5_ (k, 0) _ g_5 _ _ (fun st hs => ?_) _ (SH.bun hs)
  replace hs : SH st ([pt iL (.loop 15 [6] ca cb tm (lsW r_4.2) (ljW [] r_4.2)), pt io0 (.cells (cI .i64 r_4.1))] ++ _) := SH.unbun hs
  refine ni hF (fun c_ hF => ?_) (fun c_ hF => ?_)
  · rw [c_] at hs
    refine rgN hs (by decide) fun st hs => ?_
    refine en hf ?_
    refine rn 0 rfl ?_
    refine W.o (l1 rfl (hs.g 0 rfl) rfl) ?_
    refine rn 1 rfl ?_
    cases hF
    exact rD (rlt rl0) rfl
  · cases hF
noncomputable def F28 (n : T27) : Option Int :=
 (F29 n >>= fun r_2 =>
  (G28 (.p1 0 r_2 0)))
theorem d28 (n : T27) (r : Int) (hF : F28 n = some r) : DFun Try.prog noG 28 [v27 n] (AV.int .i64 r) := by
 unfold F28 at hF
 refine bD k28 rfl ?_
 have hs : SH [] [] := SH.nil
 generalize ([] : Store) = st at hs ⊢
 refine rn 0 rfl ?_
 refine W.o (e_boxD (cs := c27 n) rfl (by rw [c27_len]; rfl) (c27_one _)) ?_
 refine rn 1 rfl ?_
 refine al hs (cs := cI .i64 0) rfl fun st b_1 hs => ?_
 refine sr hs 0 rfl rfl rfl (cs' := cI .i64 0) rfl rfl fun st hs => ?_
 obtain ⟨r_2, g_3, hF⟩ := bind_some hF
 refine rn 0 rfl ?_
 refine df (d29 n _ g_3) rfl ?_
 refine rj 0 2 rfl ?_
 exact w28 (.p1 0 r_2 0) _ hF _ _ b_1 ⟨rfl, rfl, rfl, trivial⟩ hs
/-! ### 37: paddock/nfa.size$1 -/
def C37_1 : ACode := .ops [q 3 (.load1 1), q 4 (.mv 0), q 5 (.binI .add 3 4), q 6 (.min [5, (ki 16385)]), q0 (.store 1 1 6)]
def R37 : List RA := []
theorem k37 : compF Try.prog (muL []) 37 = some ⟨7, C37_1, R37⟩ := by kernel_rfl
noncomputable abbrev X37 (K : AV → Store → Prop) : Cx := cK Try.prog noG 7 R37 (isK K)
noncomputable def F37 (x_ : Int) (q0_ : Int) : Option Int :=
 (some (if 16385 < (IntKind.wrap .i64 (q0_ + x_)) then 16385 else (IntKind.wrap .i64 (q0_ + x_))))
theorem d37 (x_ : Int) (q0_ : Int) (r : Int) (hF : F37 x_ q0_ = some r) : ∀ (K : AV → Store → Prop) (Ls : List Asn) (iQ0 : Nat), (∀ st, SH st (pt iQ0 (.cells (cI .i64 r)) :: Ls) → K (AV.tup []) st) → ∀ (st : Store), SH st (pt iQ0 (.cells (cI .i64 q0_)) :: Ls) → XCall Try.prog noG 37 [AV.int .i64 x_, .ptr iQ0 0] st K := by
 unfold F37 at hF
 intro K Ls iQ0 hK  st hs
 refine bS k37 rfl ?_
 refine rn 0 rfl ?_
 refine W.o (l1 rfl (hs.g 0 rfl) rfl) ?_
 refine rn 3 rfl ?_
 refine sr hs 0 rfl rfl rfl (cs' := cI .i64 (if 16385 < (IntKind.wrap .i64 (q0_ + x_)) then 16385 else (IntKind.wrap .i64 (q0_ + x_)))) rfl rfl fun st hs => ?_
 refine rn 0 rfl ?_
 cases hF
 exact eS rl0 (hK _ hs) rfl
/-! ### 25: paddock/nfa.size -/
def C25_20 : ACode := .s (.ops [q 19 (.binI .eql 12 (ku 4)), q 17 (.mv 19)]) (.cond 17 .skip (.ops [q 20 (.binI .eql 12 (ku 6)), q 17 (.mv 20)]))
def C25_31 : ACode := .s (.ops [q 25 (.binI .lss 24 23)]) (.s (.cond 25 .skip (.exit 1)) (.s (.block 2 (.s (.ops [q 26 (.iaddrL 9 22 24), q 27 (.loadN 9 26), q 6 (.alloc [(.int .u8 0), (.int .u64 0), (.int .u64 0), (.int .u64 0), (.int .u64 0), (.int .i64 0), (.int .i64 0), (.int .i64 0), .nils]), q0 (.store 9 6 27)]) (.ops [q 28 (.mv 4), q 29 (.loadN 9 6), qc 30 25 [29], qf 31 28 [30]]))) (.ops [q 32 (.binI .add 24 (ki 1)), q 24 (.mv 32)])))
def C25_27 : ACode := .s (.ops [q 21 (.faddr 8 1), q 22 (.load1 21), q 23 (.len 22), q 24 (.mv (ki 0))]) (.block 1 (.loop C25_31))
def C25_49 : ACode := .s (.ops [q 43 (.faddr 0 1), q 44 (.load1 43), q 45 (.binI .eql 44 (ku 6))]) (.cond 45 (.ops [q 46 (.mv 4), qf 47 46 [(ki 2)]]) .skip)
def C25_43 : ACode := .s (.s (.ops [q 33 (.faddr 0 1), q 34 (.load1 33), q 35 (.binI .eql 34 (ku 4))]) (.cond 35 (.ops [q 36 (.mv 4), q 37 (.faddr 8 1), q 38 (.load1 37), q 39 (.len 38), q 40 (.binI .sub 39 (ki 1)), q 41 (.binI .mul (ki 2) 40), qf 42 36 [41]]) .skip)) C25_49
def C25_26 : ACode := .s C25_27 C25_43
def C25_67 : ACode := .s (.ops [q 68 (.mv 4), q 69 (.faddr 5 1), q 70 (.load1 69), q 71 (.mv 7), q 72 (.binI .mul 70 71), qf 73 68 [72]]) (.s (.ops [q 74 (.faddr 6 1), q 75 (.load1 74), q 76 (.binI .eql 75 (ki (-1)))]) (.cond 76 (.ops [q 77 (.mv 4), q 78 (.mv 7), q 79 (.binI .add 78 (ki 4)), qf 80 77 [79]]) (.ops [q 81 (.mv 4), q 82 (.faddr 6 1), q 83 (.load1 82), q 84 (.faddr 5 1), q 85 (.load1 84), q 86 (.binI .sub 83 85), q 87 (.mv 7), q 88 (.binI .add 87 (ki 3)), q 89 (.binI .mul 86 88), qf 90 81 [89]])))
def C25_56 : ACode := .cond 48 (.s (.ops [q 50 (.faddr 8 1), q 51 (.load1 50), q 52 (.iaddrL 9 51 (ki 0)), q 53 (.loadN 9 52), qc 54 25 [53], q 7 (.mv 54)]) (.s (.s (.ops [q 56 (.faddr 8 1), q 57 (.load1 56), q 58 (.iaddrL 9 57 (ki 0)), q 59 (.loadN 9 58), qc 60 38 [59], q 55 (.mv 60), q 61 (.extract 55 0), q 62 (.extract 55 1), q 8 (.mv 61), q 9 (.mv 62)]) (.s (.ops [q 63 (.mv 8), q 64 (.binI .gtr 63 (ki 0))]) (.cond 64 (.ops [q 65 (.mv 7), q 66 (.binI .add 65 (ki 1)), q 67 (.min [66, (ki 16385)]), q 7 (.mv 67)]) .skip))) C25_67)) (.ops [q 13 (.mv 4), qf 14 13 [(ki 1)]])
def C25_75 : ACode := .s (.ops [q 91 (.load1 3), q 2 (.mv 91)]) .ret
def C25_1 : ACode := .s (.ops [q 1 (.boxD 9 0), q 2 (.mv (ki 0))]) (.s (.ops [q 3 (.alloc [(.int .i64 0)]), q0 (.store 1 3 (ki 0))]) (.s (.ops [q 10 (.mkfn 37 [3]), q 4 (.mv 10)]) (.s (.s (.ops [q 11 (.faddr 0 1), q 12 (.load1 11)]) (.block 0 (.s (.ops [q 16 (.binI .eql 12 (ku 1)), q 15 (.mv 16)]) (.cond 15 .skip (.s (.s (.ops [q 18 (.binI .eql 12 (ku 3)), q 17 (.mv 18)]) (.cond 17 .skip C25_20)) (.cond 17 C25_26 (.s (.ops [q 49 (.binI .eql 12 (ku 5)), q 48 (.mv 49)]) C25_56))))))) C25_75)))
def R25 : List RA := [(.tmp 2)]
theorem k25 : compF Try.prog (muL [1]) 25 = some ⟨92, C25_1, R25⟩ := by kernel_rfl
noncomputable abbrev X25 (r : Int) : Cx := cD Try.prog noG 92 R25 (AV.int .i64 r) [1]
inductive St25 where
 | e (n : T27)
 | p1 (n : T27) (sum : Int)
 | p2 (n : T27) (round : Int) (sum : Int)
 | p3 (n : T27) (t22_ : Sl T27) (t23_ : Int) (t24_ : Int) (sum : Int)
 | p4 (n : T27) (sum : Int)
noncomputable def G25 : St25 → Option Int
 | .e n =>
  (if (n.Kind == 1) = true then
   (some 0)
  else
   (if (n.Kind == 3) = true then
    (G25 (.p1 n 0))
   else
    (if (n.Kind == 4) = true then
     (G25 (.p1 n 0))
    else
     (if (n.Kind == 6) = true then
      (G25 (.p1 n 0))
     else
      (if (n.Kind == 5) = true then
       (ix (ls n.Kids) 0 >>= fun v_7 =>
        (G25 (.e v_7) >>= fun r_9 =>
         (ix (ls n.Kids) 0 >>= fun v_11 =>
          (F38 v_11 >>= fun r_13 =>
           (if (decide (r_13.1 > 0)) = true then
            (G25 (.p2 n (if 16385 < (IntKind.wrap .i64 (r_9 + 1)) then 16385 else (IntKind.wrap .i64 (r_9 + 1))) 0))
           else
            (G25 (.p2 n r_9 0)))))))
      else
       (F37 1 0 >>= fun r_16 =>
        (some r_16)))))))
 | .p1 n sum =>
  (G25 (.p3 n n.Kids ((ls n.Kids).length : Int) 0 sum))
 | .p2 n round sum =>
  (F37 (IntKind.wrap .i64 (n.Min * round)) sum >>= fun r_18 =>
   (if (n.Max == (-1)) = true then
    (F37 (IntKind.wrap .i64 (round + 4)) r_18 >>= fun r_21 =>
     (some r_21))
   else
    (F37 (IntKind.wrap .i64 ((IntKind.wrap .i64 (n.Max - n.Min)) * (IntKind.wrap .i64 (round + 3)))) r_18 >>= fun r_23 =>
     (some r_23))))
 | .p3 n t22_ t23_ t24_ sum =>
  (if (decide (t24_ < t23_)) = true then
   (ix (ls t22_) t24_ >>= fun v_26 =>
    (G25 (.e v_26) >>= fun r_29 =>
     (F37 r_29 sum >>= fun r_31 =>
      (G25 (.p3 n t22_ t23_ (IntKind.wrap .i64 (t24_ + 1)) r_31)))))
  else
   (if (n.Kind == 4) = true then
    (F37 (IntKind.wrap .i64 (2 * (IntKind.wrap .i64 (((ls n.Kids).length : Int) - 1)))) sum >>= fun r_34 =>
     (G25 (.p4 n r_34)))
   else
    (G25 (.p4 n sum))))
 | .p4 n sum =>
  (if (n.Kind == 6) = true then
   (F37 2 sum >>= fun r_37 =>
    (some r_37))
  else
   (some sum))
 partial_fixpoint
def M25 (x : St25) (r : Int) : Prop := match x with
 | .e n => DFun Try.prog noG 25 [v27 n] (AV.int .i64 r)
 | .p1 n sum => ∀ (tm : Fr) (st : Store) (io0 : Nat), Frm tm [(1, .dptr (c27 n)), (3, .ptr io0 0), (4, .fn 37 [.ptr io0 0])] → SH st [pt io0 (.cells (cI .i64 sum))] → W (X25 r) [.code C25_26, .blk 0, .code C25_75] tm st
 | .p2 n round sum => ∀ (tm : Fr) (st : Store) (io0 : Nat), Frm tm [(1, .dptr (c27 n)), (3, .ptr io0 0), (4, .fn 37 [.ptr io0 0]), (7, AV.int .i64 round)] → SH st [pt io0 (.cells (cI .i64 sum))] → W (X25 r) [.code C25_67, .blk 0, .code C25_75] tm st
 | .p3 n t22_ t23_ t24_ sum => ∀ (tm : Fr) (st : Store) (io0 : Nat), Frm tm [(1, .dptr (c27 n)), (3, .ptr io0 0), (4, .fn 37 [.ptr io0 0]), (22, slV 9 v27 t22_), (23, AV.int .i64 t23_), (24, AV.int .i64 t24_)] → SH st [pt io0 (.cells (cI .i64 sum))] → W (X25 r) [.lp C25_31, .blk 1, .code C25_43, .blk 0, .code C25_75] tm st
 | .p4 n sum => ∀ (tm : Fr) (st : Store) (io0 : Nat), Frm tm [(1, .dptr (c27 n)), (3, .ptr io0 0), (4, .fn 37 [.ptr io0 0])] → SH st [pt io0 (.cells (cI .i64 sum))] → W (X25 r) [.code C25_49, .blk 0, .code C25_75] tm st
theorem w25 : ∀ (x : St25) (r : Int), G25 x = some r → M25 x r := by
 refine G25.partial_correctness (M25) ?_
 intro g ih x r hF
 cases x with
 | e n =>
  dsimp only at hF
  refine bD k25 rfl ?_
  have hs : SH [] [] := SH.nil
  generalize ([] : Store) = st at hs ⊢
  refine rn 0 rfl ?_
  refine W.o (e_boxD (cs := c27 n) rfl (by rw [c27_len]; rfl) (c27_one _)) ?_
  refine rn 1 rfl ?_
  refine al hs (cs := cI .i64 0) rfl fun st b_1 hs => ?_
  refine sr hs 0 rfl rfl rfl (cs' := cI .i64 0) rfl rfl fun st hs => ?_
  refine rn 2 rfl ?_
  refine W.o (e_faddrD rfl) ?_
  refine W.o (e_load1D rfl (DP.fld (DP.refl _) (lrg27_Kind n))) ?_
  refine rn 2 rfl ?_
  refine ci hF rfl (fun c_2 hF => ?_) (fun c_2 hF => ?_)
  · refine rn 0 rfl ?_
    refine W.o (l1 rfl (hs.g 0 rfl) rfl) ?_
    refine rn 1 rfl ?_
    cases hF
    exact rD (rlt rl0) rfl
  · refine rn 2 rfl ?_
    refine ci hF rfl (fun c_3 hF => ?_) (fun c_3 hF => ?_)
    · refine rn 0 rfl ?_
      refine ct rfl c_3 ?_
      exact ih (.p1 n 0) _ hF _ _ b_1 ⟨rfl, rfl, rfl, trivial⟩ hs
    · refine rn 2 rfl ?_
      refine ci hF rfl (fun c_4 hF => ?_) (fun c_4 hF => ?_)
      · refine rn 0 rfl ?_
        refine ct rfl c_4 ?_
        exact ih (.p1 n 0) _ hF _ _ b_1 ⟨rfl, rfl, rfl, trivial⟩ hs
      · refine rn 2 rfl ?_
        refine ci hF rfl (fun c_5 hF => ?_) (fun c_5 hF => ?_)
        · exact ih (.p1 n 0) _ hF _ _ b_1 ⟨rfl, rfl, rfl, trivial⟩ hs
        · refine rn 2 rfl ?_
          refine ci hF rfl (fun c_6 hF => ?_) (fun c_6 hF => ?_)
          · refine rn 0 rfl ?_
            refine W.o (e_faddrD rfl) ?_
            refine W.o (e_load1D rfl (DP.fld (DP.refl _) (lrg27_Kids n))) ?_
            obtain ⟨v_7, g_8, hF⟩ := bind_some hF
            refine W.o (e_iaddrL (rd_V rfl) rfl g_8) ?_
            refine W.o (e_loadND rfl (DP.refl _) (c27_len _)) ?_
            obtain ⟨r_9, g_10, hF⟩ := bind_some hF
            refine df (ih (.e v_7) _ g_10) rfl ?_
            refine rn 1 rfl ?_
            refine W.o (e_faddrD rfl) ?_
            refine W.o (e_load1D rfl (DP.fld (DP.refl _) (lrg27_Kids n))) ?_
            obtain ⟨v_11, g_12, hF⟩ := bind_some hF
            refine W.o (e_iaddrL (rd_V rfl) rfl g_12) ?_
            refine W.o (e_loadND rfl (DP.refl _) (c27_len _)) ?_
            obtain ⟨r_13, g_14, hF⟩ := bind_some hF
            refine df (d38 v_11 _ g_14) rfl ?_
            refine rn 7 rfl ?_
            refine ci hF rfl (fun c_15 hF => ?_) (fun c_15 hF => ?_)
            · refine rj 4 1 rfl ?_
              exact ih (.p2 n (if 16385 < (IntKind.wrap .i64 (r_9 + 1)) then 16385 else (IntKind.wrap .i64 (r_9 + 1))) 0) _ hF _ _ b_1 ⟨rfl, rfl, rfl, rfl, trivial⟩ hs
            · refine rj 0 1 rfl ?_
              exact ih (.p2 n r_9 0) _ hF _ _ b_1 ⟨rfl, rfl, rfl, rfl, trivial⟩ hs
          · obtain ⟨r_16, g_17, hF⟩ := bind_some hF
            refine rn 1 rfl ?_
            refine cv rfl (by kernel_rfl) (ale rfl) (d37 1 0 _ g_17 _ _ b_1 (fun st hs => ?_) _ hs)
            refine rn 0 rfl ?_
            refine W.o (l1 rfl (hs.g 0 rfl) rfl) ?_
            refine rn 1 rfl ?_
            cases hF
            exact rD (rlt rl0) rfl
 | p1 n sum =>
  dsimp only at hF
  intro tm st io0 hf hs
  refine en hf ?_
  refine rn 0 rfl ?_
  refine W.o (e_faddrD rfl) ?_
  refine W.o (e_load1D rfl (DP.fld (DP.refl _) (lrg27_Kids n))) ?_
  refine W.o (e_len (rd_V rfl)) ?_
  refine rn 1 rfl ?_
  exact ih (.p3 n n.Kids ((ls n.Kids).length : Int) 0 sum) _ hF _ _ io0 ⟨rfl, rfl, rfl, rfl, rfl, rfl, trivial⟩ hs
 | p2 n round sum =>
  dsimp only at hF
  intro tm st io0 hf hs
  refine en hf ?_
  refine rn 1 rfl ?_
  refine W.o (e_faddrD rfl) ?_
  refine W.o (e_load1D rfl (DP.fld (DP.refl _) (lrg27_Min n))) ?_
  obtain ⟨r_18, g_19, hF⟩ := bind_some hF
  refine rn 2 rfl ?_
  refine cv rfl (by kernel_rfl) (ale rfl) (d37 (IntKind.wrap .i64 (n.Min * round)) sum _ g_19 _ _ io0 (fun st hs => ?_) _ hs)
  refine rn 0 rfl ?_
  refine W.o (e_faddrD rfl) ?_
  refine W.o (e_load1D rfl (DP.fld (DP.refl _) (lrg27_Max n))) ?_
  refine rn 1 rfl ?_
  refine ci hF rfl (fun c_20 hF => ?_) (fun c_20 hF => ?_)
  · obtain ⟨r_21, g_22, hF⟩ := bind_some hF
    refine rn 3 rfl ?_
    refine cv rfl (by kernel_rfl) (ale rfl) (d37 (IntKind.wrap .i64 (round + 4)) r_18 _ g_22 _ _ io0 (fun st hs => ?_) _ hs)
    refine rn 0 rfl ?_
    refine W.o (l1 rfl (hs.g 0 rfl) rfl) ?_
    refine rn 1 rfl ?_
    cases hF
    exact rD (rlt rl0) rfl
  · refine rn 1 rfl ?_
    refine W.o (e_faddrD rfl) ?_
    refine W.o (e_load1D rfl (DP.fld (DP.refl _) (lrg27_Max n))) ?_
    refine W.o (e_faddrD rfl) ?_
    refine W.o (e_load1D rfl (DP.fld (DP.refl _) (lrg27_Min n))) ?_
    obtain ⟨r_23, g_24, hF⟩ := bind_some hF
    refine rn 4 rfl ?_
    refine cv rfl (by kernel_rfl) (ale rfl) (d37 (IntKind.wrap .i64 ((IntKind.wrap .i64 (n.Max - n.Min)) * (IntKind.wrap .i64 (round + 3)))) r_18 _ g_24 _ _ io0 (fun st hs => ?_) _ hs)
    refine rn 0 rfl ?_
    refine W.o (l1 rfl (hs.g 0 rfl) rfl) ?_
    refine rn 1 rfl ?_
    cases hF
    exact rD (rlt rl0) rfl
 | p3 n t22_ t23_ t24_ sum =>
  dsimp only at hF
  intro tm st io0 hf hs
  refine en hf ?_
  refine lp ?_
  refine rn 1 rfl ?_
  refine ci hF rfl (fun c_25 hF => ?_) (fun c_25 hF => ?_)
  · obtain ⟨v_26, g_27, hF⟩ := bind_some hF
    refine rn 0 rfl ?_
    refine W.o (e_iaddrL (rd_V rfl) rfl g_27) ?_
    refine W.o (e_loadND rfl (DP.refl _) (c27_len _)) ?_
    refine al hs (cs := c27 ({ Kind := 0, Set := (Arr.rep 4 0), Min := 0, Max := 0, Group := 0, Kids := none } : T27)) rfl fun st b_28 hs => ?_
    refine sl hs 0 rfl rfl (LR.whole _ _) (c27_len _) rfl (c27_len _) (c27_one _) rfl fun st hs => ?_
    refine rn 1 rfl ?_
    refine W.o (e_loadN rfl (hs.g 0 rfl) (LR.whole _ _) (c27_len _)) ?_
    obtain ⟨r_29, g_30, hF⟩ := bind_some hF
    refine df (ih (.e v_26) _ g_30) rfl ?_
    obtain ⟨r_31, g_32, hF⟩ := bind_some hF
    refine cv rfl (by kernel_rfl) (ale rfl) (d37 r_29 sum _ g_32 _ _ io0 (fun st hs => ?_) _ (hs.p 2 [1, 0] rfl))
    refine rn 2 rfl ?_
    exact ih (.p3 n t22_ t23_ (IntKind.wrap .i64 (t24_ + 1)) r_31) _ hF _ _ io0 ⟨rfl, rfl, rfl, rfl, rfl, rfl, trivial⟩ (hs.p 2 [0] rfl)
  · refine rn 0 rfl ?_
    refine W.o (e_faddrD rfl) ?_
    refine W.o (e_load1D rfl (DP.fld (DP.refl _) (lrg27_Kind n))) ?_
    refine rn 1 rfl ?_
    refine ci hF rfl (fun c_33 hF => ?_) (fun c_33 hF => ?_)
    · refine rn 1 rfl ?_
      refine W.o (e_faddrD rfl) ?_
      refine W.o (e_load1D rfl (DP.fld (DP.refl _) (lrg27_Kids n))) ?_
      refine W.o (e_len (rd_V rfl)) ?_
      obtain ⟨r_34, g_35, hF⟩ := bind_some hF
      refine rn 2 rfl ?_
      refine cv rfl (by kernel_rfl) (ale rfl) (d37 (IntKind.wrap .i64 (2 * (IntKind.wrap .i64 (((ls n.Kids).length : Int) - 1)))) sum _ g_35 _ _ io0 (fun st hs => ?_) _ hs)
      refine rj 0 1 rfl ?_
      exact ih (.p4 n r_34) _ hF _ _ io0 ⟨rfl, rfl, rfl, trivial⟩ hs
    · refine rj 0 1 rfl ?_
      exact ih (.p4 n sum) _ hF _ _ io0 ⟨rfl, rfl, rfl, trivial⟩ hs
 | p4 n sum =>
  dsimp only at hF
  intro tm st io0 hf hs
  refine en hf ?_
  refine rn 0 rfl ?_
  refine W.o (e_faddrD rfl) ?_
  refine W.o (e_load1D rfl (DP.fld (DP.refl _) (lrg27_Kind n))) ?_
  refine rn 1 rfl ?_
  refine ci hF rfl (fun c_36 hF => ?_) (fun c_36 hF => ?_)
  · obtain ⟨r_37, g_38, hF⟩ := bind_some hF
    refine rn 1 rfl ?_
    refine cv rfl (by kernel_rfl) (ale rfl) (d37 2 sum _ g_38 _ _ io0 (fun st hs => ?_) _ hs)
    refine rn 0 rfl ?_
    refine W.o (l1 rfl (hs.g 0 rfl) rfl) ?_
    refine rn 1 rfl ?_
    cases hF
    exact rD (rlt rl0) rfl
  · refine rn 0 rfl ?_
    refine W.o (l1 rfl (hs.g 0 rfl) rfl) ?_
    refine rn 1 rfl ?_
    cases hF
    exact rD (rlt rl0) rfl
noncomputable def F25 (n : T27) : Option Int := G25 (.e n)
theorem d25 (n : T27) (r : Int) (hF : F25 n = some r) : DFun Try.prog noG 25 [v27 n] (AV.int .i64 r) := by
 exact w25 (.e n) r hF
/-! ### 30: paddock/posix.Check$1 -/
def C30_20 : ACode := .ops [q 32 (.load1 3), q 33 (.bslice 1 1 false [(.bool false)] [(0, (1, (.c (.bool false))))] false), q 34 (.appR 1 1 32 33), q0 (.store 1 3 34)]
def O30_24q1 : List AOp := (q 61 (.faddr 7 60)).y 57 :: (q 62 (.load1 61)).y 57 :: (q 63 (.binI .sub 62 (ki 1))).y 57 :: (q 64 (.iaddrL 1 58 63)).y 57 :: (q 65 (.load1 64)).y 57 :: q 66 (.pick 57 65 (.c (.bool false))) :: []
def O30_24q0 : List AOp := q 37 (.mv 0) :: q 38 (.nilck 37) :: q 39 (.faddr 7 38) :: q 40 (.load1 39) :: q 41 (.binI .geq 40 (ki 1)) :: q 42 (.mv 41) :: (q 43 (.mv 0)).y 42 :: (q 44 (.nilck 43)).y 42 :: (q 45 (.faddr 7 44)).y 42 :: (q 46 (.load1 45)).y 42 :: (q 47 (.binI .leq 46 (ki 9))).y 42 :: q 48 (.pick 42 47 (.c (.bool false))) :: q 49 (.mv 48) :: (q 50 (.mv 0)).y 49 :: (q 51 (.nilck 50)).y 49 :: (q 52 (.faddr 7 51)).y 49 :: (q 53 (.load1 52)).y 49 :: (q 54 (.load1 2)).y 49 :: (q 55 (.binI .leq 53 54)).y 49 :: q 56 (.pick 49 55 (.c (.bool false))) :: q 57 (.mv 56) :: (q 58 (.load1 3)).y 57 :: (q 59 (.mv 0)).y 57 :: (q 60 (.nilck 59)).y 57 :: O30_24q1
def C30_39 : ACode := .s (.ops [q 74 (.mv 72), q 6 (.mv 74)]) (.s (.ops [q 75 (.load1 1)]) (.cond 75 (.draw [] 0 0 [q 76 (.load1 4), q 77 (.mv 0), q 78 (.nilck 77), q 79 (.faddr 8 78), q 80 (.load1 79), q 81 (.mv 6), q 82 (.iaddrL 9 80 81)] [qf 83 76 [82]]) .skip))
def C30_31 : ACode := .s (.ops [q 73 (.binI .lss 72 71)]) (.s (.cond 73 .skip (.exit 1)) (.s (.block 2 C30_39) (.ops [q 84 (.binI .add 72 (ki 1)), q 72 (.mv 84)])))
def C30_47 : ACode := .s (.ops [q 85 (.load1 1), q 86 (.mv 85), (q 87 (.mv 0)).y 86, (q 88 (.nilck 87)).y 86, (q 89 (.faddr 0 88)).y 86, (q 90 (.load1 89)).y 86, (q 91 (.binI .eql 90 (ku 6))).y 86, q 92 (.pick 86 91 (.c (.bool false)))]) (.cond 92 (.draw [] 0 0 [q 93 (.load1 3), q 94 (.mv 0), q 95 (.nilck 94), q 96 (.faddr 7 95), q 97 (.load1 96), q 98 (.binI .sub 97 (ki 1)), q 99 (.iaddrL 1 93 98)] [q0 (.store 1 99 (.c (.bool true)))]) .skip)
def C30_26 : ACode := .s (.s (.ops [q 67 (.mv 0), q 68 (.nilck 67), q 69 (.faddr 8 68), q 70 (.load1 69), q 71 (.len 70), q 72 (.mv (ki 0))]) (.block 1 (.loop C30_31))) C30_47
def C30_3 : ACode := .s (.s (.ops [q 12 (.load1 1), q 13 (.un .not 12)]) (.cond 13 .ret .skip)) (.s (.s (.ops [q 14 (.mv 0), q 15 (.nilck 14), q 16 (.faddr 0 15), q 17 (.load1 16)]) (.block 0 (.s (.ops [q 19 (.binI .eql 17 (ku 6)), q 18 (.mv 19)]) (.cond 18 (.s (.ops [q 20 (.load1 2), q 21 (.binI .add 20 (ki 1)), q0 (.store 1 2 21)]) (.s (.draw [] 0 0 [q 22 (.mv 0), q 23 (.nilck 22), q 24 (.faddr 7 23), q 25 (.load1 24), q 26 (.load1 2), q 27 (.binI .eql 25 26), q 28 (.mv 27), (q 29 (.load1 2)).y 28, (q 30 (.binI .leq 29 (ki 99))).y 28, q 31 (.pick 28 30 (.c (.bool false)))] [q0 (.store 1 1 31)]) C30_20)) (.s (.ops [q 36 (.binI .eql 17 (ku 7)), q 35 (.mv 36)]) (.cond 35 (.draw [] 0 0 O30_24q0 [q0 (.store 1 1 66)]) .skip)))))) C30_26)
def C30_1 : ACode := .s (.ops [q 7 (.load1 1), q 8 (.mv 7), (q 9 (.mv 0)).y 8, (qc 10 31 [9]).y 8, q 11 (.pick 8 10 (.c (.bool false))), q0 (.store 1 1 11)]) C30_3
def R30 : List RA := []
theorem k30 : compF Try.prog (muL [34]) 30 = some ⟨100, C30_1, R30⟩ := by kernel_rfl
noncomputable abbrev X30 (K : AV → Store → Prop) : Cx := cK Try.prog noG 100 R30 (isK K) [34]
inductive St30 where
 | e (n : T27) (q0_ : Bool) (q1_ : Int) (q2_ : Sl Bool)
 | p1 (n : T27) (q0_ : Bool) (q1_ : Int) (q2_ : Sl Bool)
 | p2 (n : T27) (q0_ : Bool) (q1_ : Int) (q2_ : Sl Bool)
 | p3 (n : T27) (q0_ : Bool) (q1_ : Int) (q2_ : Sl Bool)
 | p4 (n : T27) (t71_ : Int) (t72_ : Int) (q0_ : Bool) (q1_ : Int) (q2_ : Sl Bool)
noncomputable def G30 : St30 → Option (Bool × Int × Sl Bool)
 | .e n q0_ q1_ q2_ =>
  (if q0_ = true then
   (F31 n >>= fun r_2 =>
    (G30 (.p1 n r_2 q1_ q2_)))
  else
   (G30 (.p1 n false q1_ q2_)))
 | .p1 n q0_ q1_ q2_ =>
  (if (!q0_) = true then
   (some (q0_, q1_, q2_))
  else
   (if (n.Kind == 6) = true then
    (if (n.Group == (IntKind.wrap .i64 (q1_ + 1))) = true then
     (G30 (.p2 n (decide ((IntKind.wrap .i64 (q1_ + 1)) ≤ 99)) (IntKind.wrap .i64 (q1_ + 1)) q2_))
    else
     (G30 (.p2 n false (IntKind.wrap .i64 (q1_ + 1)) q2_)))
   else
    (if (n.Kind == 7) = true then
     (if (decide (n.Group ≥ 1)) = true then
      (if (decide (n.Group ≤ 9)) = true then
       (if (decide (n.Group ≤ q1_)) = true then
        (ix (ls q2_) (IntKind.wrap .i64 (n.Group - 1)) >>= fun v_12 =>
         (G30 (.p3 n v_12 q1_ q2_)))
       else
        (G30 (.p3 n false q1_ q2_)))
      else
       (G30 (.p3 n false q1_ q2_)))
     else
      (G30 (.p3 n false q1_ q2_)))
    else
     (G30 (.p3 n q0_ q1_ q2_)))))
 | .p2 n q0_ q1_ q2_ =>
  (if ((ls q2_).length + (ls (some ([false] : List Bool))).length) * 1 ≤ 140737488355328 then
   (G30 (.p3 n q0_ q1_ (sapp q2_ (ls (some ([false] : List Bool))))))
  else none)
 | .p3 n q0_ q1_ q2_ =>
  (G30 (.p4 n ((ls n.Kids).length : Int) 0 q0_ q1_ q2_))
 | .p4 n t71_ t72_ q0_ q1_ q2_ =>
  (if (decide (t72_ < t71_)) = true then
   (if q0_ = true then
    (ix (ls n.Kids) t72_ >>= fun v_20 =>
     (G30 (.e v_20 q0_ q1_ q2_) >>= fun r_22 =>
      (G30 (.p4 n t71_ (IntKind.wrap .i64 (t72_ + 1)) r_22.1 r_22.2.1 r_22.2.2))))
   else
    (G30 (.p4 n t71_ (IntKind.wrap .i64 (t72_ + 1)) q0_ q1_ q2_)))
  else
   (if q0_ = true then
    (if (n.Kind == 6) = true then
     (ix (ls q2_) (IntKind.wrap .i64 (n.Group - 1)) >>= fun v_27 =>
      (some (q0_, q1_, (vset q2_ (IntKind.wrap .i64 (n.Group - 1)) true))))
    else
     (some (q0_, q1_, q2_)))
   else
    (some (q0_, q1_, q2_))))
 partial_fixpoint
def M30 (x : St30) (r : Bool × Int × Sl Bool) : Prop := match x with
 | .e n q0_ q1_ q2_ => ∀ (K : AV → Store → Prop) (Ls : List Asn) (iQ0 : Nat) (iQ1 : Nat) (iQ2 : Nat) (iW3 : Nat), (∀ st, SH st (pt iQ0 (.cells (cB r.1)) :: pt iQ1 (.cells (cI .i64 r.2.1)) :: bx45_r iQ2 r.2.2 :: pt iW3 (.cells [.fn 30 [.ptr iQ0 0, .ptr iQ1 0, .ptr iQ2 0, .ptr iW3 0]]) :: Ls) → K (AV.tup []) st) → ∀ (st : Store), SH st (pt iQ0 (.cells (cB q0_)) :: pt iQ1 (.cells (cI .i64 q1_)) :: bx45_r iQ2 q2_ :: pt iW3 (.cells [.fn 30 [.ptr iQ0 0, .ptr iQ1 0, .ptr iQ2 0, .ptr iW3 0]]) :: Ls) → XCall Try.prog noG 30 [.dptr (c27 n), .ptr iQ0 0, .ptr iQ1 0, .ptr iQ2 0, .ptr iW3 0] st K
 | .p1 n q0_ q1_ q2_ => ∀ (K : AV → Store → Prop) (Ls : List Asn) (iQ0 : Nat) (iQ1 : Nat) (iQ2 : Nat) (iW3 : Nat), (∀ st, SH st (pt iQ0 (.cells (cB r.1)) :: pt iQ1 (.cells (cI .i64 r.2.1)) :: bx45_r iQ2 r.2.2 :: pt iW3 (.cells [.fn 30 [.ptr iQ0 0, .ptr iQ1 0, .ptr iQ2 0, .ptr iW3 0]]) :: Ls) → K (AV.tup []) st) → ∀ (tm : Fr) (st : Store), Frm tm [(0, .dptr (c27 n)), (1, .ptr iQ0 0), (2, .ptr iQ1 0), (3, .ptr iQ2 0), (4, .ptr iW3 0)] → SH st (pt iQ0 (.cells (cB q0_)) :: pt iQ1 (.cells (cI .i64 q1_)) :: bx45_r iQ2 q2_ :: pt iW3 (.cells [.fn 30 [.ptr iQ0 0, .ptr iQ1 0, .ptr iQ2 0, .ptr iW3 0]]) :: Ls) → W (X30 K) [.code C30_3] tm st
 | .p2 n q0_ q1_ q2_ => ∀ (K : AV → Store → Prop) (Ls : List Asn) (iQ0 : Nat) (iQ1 : Nat) (iQ2 : Nat) (iW3 : Nat), (∀ st, SH st (pt iQ0 (.cells (cB r.1)) :: pt iQ1 (.cells (cI .i64 r.2.1)) :: bx45_r iQ2 r.2.2 :: pt iW3 (.cells [.fn 30 [.ptr iQ0 0, .ptr iQ1 0, .ptr iQ2 0, .ptr iW3 0]]) :: Ls) → K (AV.tup []) st) → ∀ (tm : Fr) (st : Store), Frm tm [(0, .dptr (c27 n)), (1, .ptr iQ0 0), (3, .ptr iQ2 0), (4, .ptr iW3 0)] → SH st (pt iQ0 (.cells (cB q0_)) :: pt iQ1 (.cells (cI .i64 q1_)) :: bx45_r iQ2 q2_ :: pt iW3 (.cells [.fn 30 [.ptr iQ0 0, .ptr iQ1 0, .ptr iQ2 0, .ptr iW3 0]]) :: Ls) → W (X30 K) [.code C30_20, .blk 0, .code C30_26] tm st
 | .p3 n q0_ q1_ q2_ => ∀ (K : AV → Store → Prop) (Ls : List Asn) (iQ0 : Nat) (iQ1 : Nat) (iQ2 : Nat) (iW3 : Nat), (∀ st, SH st (pt iQ0 (.cells (cB r.1)) :: pt iQ1 (.cells (cI .i64 r.2.1)) :: bx45_r iQ2 r.2.2 :: pt iW3 (.cells [.fn 30 [.ptr iQ0 0, .ptr iQ1 0, .ptr iQ2 0, .ptr iW3 0]]) :: Ls) → K (AV.tup []) st) → ∀ (tm : Fr) (st : Store), Frm tm [(0, .dptr (c27 n)), (1, .ptr iQ0 0), (3, .ptr iQ2 0), (4, .ptr iW3 0)] → SH st (pt iQ0 (.cells (cB q0_)) :: pt iQ1 (.cells (cI .i64 q1_)) :: bx45_r iQ2 q2_ :: pt iW3 (.cells [.fn 30 [.ptr iQ0 0, .ptr iQ1 0, .ptr iQ2 0, .ptr iW3 0]]) :: Ls) → W (X30 K) [.code C30_26] tm st
 | .p4 n t71_ t72_ q0_ q1_ q2_ => ∀ (K : AV → Store → Prop) (Ls : List Asn) (iQ0 : Nat) (iQ1 : Nat) (iQ2 : Nat) (iW3 : Nat), (∀ st, SH st (pt iQ0 (.cells (cB r.1)) :: pt iQ1 (.cells (cI .i64 r.2.1)) :: bx45_r iQ2 r.2.2 :: pt iW3 (.cells [.fn 30 [.ptr iQ0 0, .ptr iQ1 0, .ptr iQ2 0, .ptr iW3 0]]) :: Ls) → K (AV.tup []) st) → ∀ (tm : Fr) (st : Store), Frm tm [(0, .dptr (c27 n)), (1, .ptr iQ0 0), (3, .ptr iQ2 0), (4, .ptr iW3 0), (71, AV.int .i64 t71_), (72, AV.int .i64 t72_)] → SH st (pt iQ0 (.cells (cB q0_)) :: pt iQ1 (.cells (cI .i64 q1_)) :: bx45_r iQ2 q2_ :: pt iW3 (.cells [.fn 30 [.ptr iQ0 0, .ptr iQ1 0, .ptr iQ2 0, .ptr iW3 0]]) :: Ls) → W (X30 K) [.lp C30_31, .blk 1, .code C30_47] tm st
theorem w30 : ∀ (x : St30) (r : Bool × Int × Sl Bool), G30 x = some r → M30 x r := by
 refine G30.partial_correctness (M30) ?_
 intro g ih x r hF
 cases x with
 | e n q0_ q1_ q2_ =>
  dsimp only at hF
  intro K Ls iQ0 iQ1 iQ2 iW3 hK  st hs
  refine bS k30 rfl ?_
  refine rn 0 rfl ?_
  refine W.o (l1 rfl (hs.g 0 rfl) rfl) ?_
  refine rn 1 rfl ?_
  refine bi hF (fun c_1 hF => ?_) (fun c_1 hF => ?_)
  · refine wfx 8 rfl c_1 ?_
    obtain ⟨r_2, g_3, hF⟩ := bind_some hF
    refine rn 1 rfl ?_
    refine W.on rfl rfl ?_
    refine df (d31 n _ g_3) rfl ?_
    refine rn 1 rfl ?_
    refine sr hs 0 rfl rfl rfl (cs' := cB r_2) rfl rfl fun st hs => ?_
    refine rj 0 1 rfl ?_
    exact ih (.p1 n r_2 q1_ q2_) _ hF K Ls iQ0 iQ1 iQ2 iW3 hK _ _ ⟨rfl, rfl, rfl, rfl, rfl, trivial⟩ hs
  · refine wfx 8 rfl c_1 ?_
    refine rn 3 rfl ?_
    refine sr hs 0 rfl rfl rfl (cs' := cB false) rfl rfl fun st hs => ?_
    refine rj 0 1 rfl ?_
    exact ih (.p1 n false q1_ q2_) _ hF K Ls iQ0 iQ1 iQ2 iW3 hK _ _ ⟨rfl, rfl, rfl, rfl, rfl, trivial⟩ hs
 | p1 n q0_ q1_ q2_ =>
  dsimp only at hF
  intro K Ls iQ0 iQ1 iQ2 iW3 hK tm st hf hs
  refine en hf ?_
  refine rn 0 rfl ?_
  refine W.o (l1 rfl (hs.g 0 rfl) rfl) ?_
  refine rn 1 rfl ?_
  refine ci hF rfl (fun c_4 hF => ?_) (fun c_4 hF => ?_)
  · cases hF
    exact rS rl0 (hK _ hs) rfl
  · refine rn 1 rfl ?_
    refine W.o (e_nilckD rfl) ?_
    refine W.o (e_faddrD rfl) ?_
    refine W.o (e_load1D rfl (DP.fld (DP.refl _) (lrg27_Kind n))) ?_
    refine rn 2 rfl ?_
    refine ci hF rfl (fun c_5 hF => ?_) (fun c_5 hF => ?_)
    · refine rn 0 rfl ?_
      refine W.o (l1 rfl (hs.g 1 rfl) rfl) ?_
      refine rn 1 rfl ?_
      refine sr hs 1 rfl rfl rfl (cs' := cI .i64 (IntKind.wrap .i64 (q1_ + 1))) rfl rfl fun st hs => ?_
      refine rn 0 rfl ?_
      have h0 := hs
      refine dr0 ?_
      refine dn 1 rfl ?_
      refine de rfl (e_nilckD rfl) ?_
      refine de rfl (e_faddrD rfl) ?_
      refine de rfl (e_load1D rfl (DP.fld (DP.refl _) (lrg27_Group n))) ?_
      refine de rfl (l1 rfl (h0.g 1 rfl) rfl) ?_
      refine dn 2 rfl ?_
      refine bi hF (fun c_6 hF => ?_) (fun c_6 hF => ?_)
      · refine dfx 28 rfl c_6 ?_
        refine don rfl rfl ?_
        refine de rfl (l1 rfl (h0.g 1 rfl) rfl) ?_
        refine dn 2 rfl ?_
        refine dz ?_
        refine sr hs 0 rfl rfl rfl (cs' := cB (decide ((IntKind.wrap .i64 (q1_ + 1)) ≤ 99))) rfl rfl fun st hs => ?_
        refine rj 0 1 rfl ?_
        exact ih (.p2 n (decide ((IntKind.wrap .i64 (q1_ + 1)) ≤ 99)) (IntKind.wrap .i64 (q1_ + 1)) q2_) _ hF K Ls iQ0 iQ1 iQ2 iW3 hK _ _ ⟨rfl, rfl, rfl, rfl, trivial⟩ hs
      · refine dfx 28 rfl c_6 ?_
        refine dn 3 rfl ?_
        refine dz ?_
        refine sr hs 0 rfl rfl rfl (cs' := cB false) rfl rfl fun st hs => ?_
        refine rj 0 1 rfl ?_
        exact ih (.p2 n false (IntKind.wrap .i64 (q1_ + 1)) q2_) _ hF K Ls iQ0 iQ1 iQ2 iW3 hK _ _ ⟨rfl, rfl, rfl, rfl, trivial⟩ hs
    · refine rn 2 rfl ?_
      refine ci hF rfl (fun c_7 hF => ?_) (fun c_7 hF => ?_)
      · have hs := (hs.p 4 [2, 0, 0, 0] rfl)
        obtain ⟨j_8, hs⟩ := SH.bx1o hs
        have h0 := hs
        refine dr0 ?_
        refine dn 1 rfl ?_
        refine de rfl (e_nilckD rfl) ?_
        refine de rfl (e_faddrD rfl) ?_
        refine de rfl (e_load1D rfl (DP.fld (DP.refl _) (lrg27_Group n))) ?_
        refine dn 2 rfl ?_
        refine bi hF (fun c_9 hF => ?_) (fun c_9 hF => ?_)
        · refine dfx 42 rfl c_9 ?_
          refine dn 1 rfl ?_
          refine don rfl rfl ?_
          refine de rfl (e_nilckD rfl) ?_
          refine don rfl rfl ?_
          refine de rfl (e_faddrD rfl) ?_
          refine don rfl rfl ?_
          refine de rfl (e_load1D rfl (DP.fld (DP.refl _) (lrg27_Group n))) ?_
          refine dn 3 rfl ?_
          refine bi hF (fun c_10 hF => ?_) (fun c_10 hF => ?_)
          · refine dfx 49 rfl c_10 ?_
            refine dn 1 rfl ?_
            refine don rfl rfl ?_
            refine de rfl (e_nilckD rfl) ?_
            refine don rfl rfl ?_
            refine de rfl (e_faddrD rfl) ?_
            refine don rfl rfl ?_
            refine de rfl (e_load1D rfl (DP.fld (DP.refl _) (lrg27_Group n))) ?_
            refine don rfl rfl ?_
            refine de rfl (l1 rfl (h0.g 3 rfl) rfl) ?_
            refine dn 3 rfl ?_
            refine bi hF (fun c_11 hF => ?_) (fun c_11 hF => ?_)
            · refine dfx 57 rfl c_11 ?_
              refine don rfl rfl ?_
              refine de rfl (l1 rfl (h0.g 0 rfl) rfl) ?_
              refine dn 1 rfl ?_
              refine don rfl rfl ?_
              refine de rfl (e_nilckD rfl) ?_
              refine don rfl rfl ?_
              refine de rfl (e_faddrD rfl) ?_
              refine don rfl rfl ?_
              refine de rfl (e_load1D rfl (DP.fld (DP.refl _) (lrg27_Group n))) ?_
              obtain ⟨v_12, g_13, hF⟩ := bind_some hF
              refine dn 1 rfl ?_
              refine don rfl rfl ?_
              refine de rfl (e_iaddrV h0 1 rfl rfl rfl g_13) ?_
              refine don rfl rfl ?_
              refine de rfl (e_load1 rfl (SH.gv h0 1 rfl g_13) (LR.cast (LR.comp (LR.whole _ _) (lrV_get cB_len g_13)) (by omega))) ?_
              refine dn 1 rfl ?_
              refine dz ?_
              refine sr hs 2 rfl rfl rfl (cs' := cB v_12) rfl rfl fun st hs => ?_
              refine rj 0 2 rfl ?_
              have hs : SH st (bx45_r iQ2 q2_ :: _) := SH.bx1c j_8 (hs.p 5 [0, 0, 0, 0, 0] rfl)
              exact ih (.p3 n v_12 q1_ q2_) _ hF K Ls iQ0 iQ1 iQ2 iW3 hK _ _ ⟨rfl, rfl, rfl, rfl, trivial⟩ (hs.p 4 [1, 1, 0, 0] rfl)
            · refine dfx 57 rfl c_11 ?_
              refine dn 9 rfl ?_
              refine dz ?_
              refine sr hs 2 rfl rfl rfl (cs' := cB false) rfl rfl fun st hs => ?_
              refine rj 0 2 rfl ?_
              have hs : SH st (bx45_r iQ2 q2_ :: _) := SH.bx1c j_8 (hs.p 5 [0, 0, 0, 0, 0] rfl)
              exact ih (.p3 n false q1_ q2_) _ hF K Ls iQ0 iQ1 iQ2 iW3 hK _ _ ⟨rfl, rfl, rfl, rfl, trivial⟩ (hs.p 4 [1, 1, 0, 0] rfl)
          · refine dfx 49 rfl c_10 ?_
            refine dn 17 rfl ?_
            refine dz ?_
            refine sr hs 2 rfl rfl rfl (cs' := cB false) rfl rfl fun st hs => ?_
            refine rj 0 2 rfl ?_
            have hs : SH st (bx45_r iQ2 q2_ :: _) := SH.bx1c j_8 (hs.p 5 [0, 0, 0, 0, 0] rfl)
            exact ih (.p3 n false q1_ q2_) _ hF K Ls iQ0 iQ1 iQ2 iW3 hK _ _ ⟨rfl, rfl, rfl, rfl, trivial⟩ (hs.p 4 [1, 1, 0, 0] rfl)
        · refine dfx 42 rfl c_9 ?_
          refine dn 24 rfl ?_
          refine dz ?_
          refine sr hs 2 rfl rfl rfl (cs' := cB false) rfl rfl fun st hs => ?_
          refine rj 0 2 rfl ?_
          have hs : SH st (bx45_r iQ2 q2_ :: _) := SH.bx1c j_8 (hs.p 5 [0, 0, 0, 0, 0] rfl)
          exact ih (.p3 n false q1_ q2_) _ hF K Ls iQ0 iQ1 iQ2 iW3 hK _ _ ⟨rfl, rfl, rfl, rfl, trivial⟩ (hs.p 4 [1, 1, 0, 0] rfl)
      · refine rj 0 2 rfl ?_
        exact ih (.p3 n q0_ q1_ q2_) _ hF K Ls iQ0 iQ1 iQ2 iW3 hK _ _ ⟨rfl, rfl, rfl, rfl, trivial⟩ hs
 | p2 n q0_ q1_ q2_ =>
  dsimp only at hF
  intro K Ls iQ0 iQ1 iQ2 iW3 hK tm st hf hs
  refine en hf ?_
  have hs := (hs.p 4 [2, 0, 0, 0] rfl)
  obtain ⟨j_14, hs⟩ := SH.bx1o hs
  refine rn 0 rfl ?_
  refine W.o (l1 rfl (hs.g 0 rfl) rfl) ?_
  refine bs (f := AV.bool) ([false] : List Bool) hs rfl rfl rfl rfl fun st b_15 hs => ?_
  obtain ⟨g_16, hF⟩ := grd_some hF
  refine apV (f := AV.bool) (c := cB) (ys := ls (some ([false] : List Bool))) hs 2 rfl rfl (ae_rd (rd_W (o := (some ([false] : List Bool))) (id := b_15) rfl)) g_16 cB_len (fun _ => rfl) (fun _ => rfl) fun st b_17 hs => ?_
  refine so hs 1 rfl rfl rfl rvV_c rfl (cs' := [rvV 1 (sapp q2_ (ls (some ([false] : List Bool)))) b_17]) rfl rfl fun st hs => ?_
  refine rj 0 2 rfl ?_
  have hs : SH st (bx45_r iQ2 (sapp q2_ (ls (some ([false] : List Bool)))) :: _) := SH.bx1c b_17 (hs.p 6 [1, 1, 0, 0, 0, 0] rfl)
  exact ih (.p3 n q0_ q1_ (sapp q2_ (ls (some ([false] : List Bool))))) _ hF K Ls iQ0 iQ1 iQ2 iW3 hK _ _ ⟨rfl, rfl, rfl, rfl, trivial⟩ (hs.p 5 [2, 2, 0, 1] rfl)
 | p3 n q0_ q1_ q2_ =>
  dsimp only at hF
  intro K Ls iQ0 iQ1 iQ2 iW3 hK tm st hf hs
  refine en hf ?_
  refine rn 1 rfl ?_
  refine W.o (e_nilckD rfl) ?_
  refine W.o (e_faddrD rfl) ?_
  refine W.o (e_load1D rfl (DP.fld (DP.refl _) (lrg27_Kids n))) ?_
  refine W.o (e_len (rd_V rfl)) ?_
  refine rn 1 rfl ?_
  exact ih (.p4 n ((ls n.Kids).length : Int) 0 q0_ q1_ q2_) _ hF K Ls iQ0 iQ1 iQ2 iW3 hK _ _ ⟨rfl, rfl, rfl, rfl, rfl, rfl, trivial⟩ hs
 | p4 n t71_ t72_ q0_ q1_ q2_ =>
  dsimp only at hF
  intro K Ls iQ0 iQ1 iQ2 iW3 hK tm st hf hs
  refine en hf ?_
  refine lp ?_
  refine rn 1 rfl ?_
  refine ci hF rfl (fun c_18 hF => ?_) (fun c_18 hF => ?_)
  · refine rn 2 rfl ?_
    refine W.o (l1 rfl (hs.g 0 rfl) rfl) ?_
    refine rn 0 rfl ?_
    refine ci hF rfl (fun c_19 hF => ?_) (fun c_19 hF => ?_)
    · have h0 := hs
      refine dr0 ?_
      refine de rfl (l1 rfl (h0.g 3 rfl) rfl) ?_
      refine dn 1 rfl ?_
      refine de rfl (e_nilckD rfl) ?_
      refine de rfl (e_faddrD rfl) ?_
      refine de rfl (e_load1D rfl (DP.fld (DP.refl _) (lrg27_Kids n))) ?_
      obtain ⟨v_20, g_21, hF⟩ := bind_some hF
      refine dn 1 rfl ?_
      refine de rfl (e_iaddrL (rd_V rfl) rfl g_21) ?_
      refine dz ?_
      obtain ⟨r_22, g_23, hF⟩ := bind_some hF
      refine cv rfl (by kernel_rfl) (ale rfl) (ih (.e v_20 q0_ q1_ q2_) _ g_23 _ _ iQ0 iQ1 iQ2 iW3 (fun st hs => ?_) _ hs)
      refine rn 2 rfl ?_
      exact ih (.p4 n t71_ (IntKind.wrap .i64 (t72_ + 1)) r_22.1 r_22.2.1 r_22.2.2) _ hF K Ls iQ0 iQ1 iQ2 iW3 hK _ _ ⟨rfl, rfl, rfl, rfl, rfl, rfl, trivial⟩ hs
    · refine rn 2 rfl ?_
      exact ih (.p4 n t71_ (IntKind.wrap .i64 (t72_ + 1)) q0_ q1_ q2_) _ hF K Ls iQ0 iQ1 iQ2 iW3 hK _ _ ⟨rfl, rfl, rfl, rfl, rfl, rfl, trivial⟩ hs
  · refine rn 0 rfl ?_
    refine W.o (l1 rfl (hs.g 0 rfl) rfl) ?_
    refine rn 1 rfl ?_
    refine bi hF (fun c_24 hF => ?_) (fun c_24 hF => ?_)
    · refine wfx 86 rfl c_24 ?_
      refine rn 1 rfl ?_
      refine W.on rfl rfl ?_
      refine W.o (e_nilckD rfl) ?_
      refine W.on rfl rfl ?_
      refine W.o (e_faddrD rfl) ?_
      refine W.on rfl rfl ?_
      refine W.o (e_load1D rfl (DP.fld (DP.refl _) (lrg27_Kind n))) ?_
      refine rn 2 rfl ?_
      refine ci hF rfl (fun c_25 hF => ?_) (fun c_25 hF => ?_)
      · have hs := (hs.p 4 [2, 0, 0, 0] rfl)
        obtain ⟨j_26, hs⟩ := SH.bx1o hs
        have h0 := hs
        refine dr0 ?_
        refine de rfl (l1 rfl (h0.g 0 rfl) rfl) ?_
        refine dn 1 rfl ?_
        refine de rfl (e_nilckD rfl) ?_
        refine de rfl (e_faddrD rfl) ?_
        refine de rfl (e_load1D rfl (DP.fld (DP.refl _) (lrg27_Group n))) ?_
        obtain ⟨v_27, g_28, hF⟩ := bind_some hF
        refine dn 1 rfl ?_
        refine de rfl (e_iaddrV h0 1 rfl rfl rfl g_28) ?_
        refine dz ?_
        refine slv hs 1 rfl rfl g_28 rfl (LR.cast (LR.comp (LR.whole _ _) (lrV_set cB_len g_28 true)) (by omega)) (cB_len _) rfl (cB_len _) (cB_one _) rfl fun st hs => ?_
        have hs := hs.cong 0 rfl (cs' := [rvV 1 (vset q2_ (IntKind.wrap .i64 (n.Group - 1)) true) j_26]) (by simp only [rvV_vset]) rfl
        refine rn 0 rfl ?_
        have hs : SH st (bx45_r iQ2 (vset q2_ (IntKind.wrap .i64 (n.Group - 1)) true) :: _) := SH.bx1c j_26 (hs.p 5 [0, 0, 0, 0, 0] rfl)
        cases hF
        exact eS rl0 (hK _ (hs.p 4 [1, 1, 0, 0] rfl)) rfl
      · refine rn 0 rfl ?_
        cases hF
        exact eS rl0 (hK _ hs) rfl
    · refine wfx 86 rfl c_24 ?_
      refine rn 6 rfl ?_
      refine cf rfl rfl ?_
      refine rn 0 rfl ?_
      cases hF
      exact eS rl0 (hK _ hs) rfl
noncomputable def F30 (n : T27) (q0_ : Bool) (q1_ : Int) (q2_ : Sl Bool) : Option (Bool × Int × Sl Bool) := G30 (.e n q0_ q1_ q2_)
theorem d30 (n : T27) (q0_ : Bool) (q1_ : Int) (q2_ : Sl Bool) (r : Bool × Int × Sl Bool) (hF : F30 n q0_ q1_ q2_ = some r) : ∀ (K : AV → Store → Prop) (Ls : List Asn) (iQ0 : Nat) (iQ1 : Nat) (iQ2 : Nat) (iW3 : Nat), (∀ st, SH st (pt iQ0 (.cells (cB r.1)) :: pt iQ1 (.cells (cI .i64 r.2.1)) :: bx45_r iQ2 r.2.2 :: pt iW3 (.cells [.fn 30 [.ptr iQ0 0, .ptr iQ1 0, .ptr iQ2 0, .ptr iW3 0]]) :: Ls) → K (AV.tup []) st) → ∀ (st : Store), SH st (pt iQ0 (.cells (cB q0_)) :: pt iQ1 (.cells (cI .i64 q1_)) :: bx45_r iQ2 q2_ :: pt iW3 (.cells [.fn 30 [.ptr iQ0 0, .ptr iQ1 0, .ptr iQ2 0, .ptr iW3 0]]) :: Ls) → XCall Try.prog noG 30 [.dptr (c27 n), .ptr iQ0 0, .ptr iQ1 0, .ptr iQ2 0, .ptr iW3 0] st K := by
 exact w30 (.e n q0_ q1_ q2_) r hF
/-! ### 12: paddock/posix.Check -/
def C12_10 : ACode := .skip
def C12_11 : ACode := .block 1 (.s (.ops [q 10 (.load1 3), q 11 (.binI .add 10 (ki 1)), q0 (.store 1 3 11)]) (.s (.ops [q 12 (.load1 3), q 13 (.binI .gtr 12 (ki 8192))]) (.cond 13 (.s (.ops [q0 (.store 1 2 (ki 3))]) .ret) .skip)))
def C12_9 : ACode := .range 8 [9] C12_10 C12_11
def C12_36 : ACode := .cond 18 (.s (.ops [q0 (.store 1 2 (ki 90))]) .ret) .skip
def C12_21 : ACode := .s (.ops [q 4 (.alloc [(.int .i64 0)]), q0 (.store 1 4 (ki 0))]) (.s (.ops [q 5 (.alloc [.nils])]) (.s (.ops [q 6 (.alloc [(.bool false)]), q0 (.store 1 6 (.c (.bool true)))]) (.s (.ops [q 7 (.alloc [.nilfn])]) (.s (.ops [q 14 (.mkfn 30 [6, 4, 5, 7]), q0 (.store 1 7 14)]) (.s (.ops [q 15 (.load1 7), qf 16 15 [1]]) (.s (.s (.ops [q 17 (.load1 6), q 18 (.un .not 17)]) C12_36) (.s (.ops [q0 (.store 1 2 (ki 0))]) .ret)))))))
def C12_1 : ACode := .s (.ops [q 1 (.boxD 9 0), q 2 (.alloc [(.int .i64 0)])]) (.s (.ops [q 3 (.alloc [(.int .i64 0)]), q0 (.store 1 3 (ki 0))]) (.s (.s (.ops [qc 8 29 [1]]) (.block 0 C12_9)) C12_21))
def R12 : List RA := [(.cell1 2)]
theorem k12 : compF Try.prog (muL [1]) 12 = some ⟨19, C12_1, R12⟩ := by kernel_rfl
noncomputable abbrev X12 (r : Int) : Cx := cD Try.prog noG 19 R12 (AV.int .i64 r) [1]
/-! round 12.1 -/
noncomputable def B12_1 (n : T27) (t8_ : T27) (x : T27) (zz : Int × Int × Nat) : Option (Bool × (Int × Int × Nat)) := if zz.2.2 = 0 then
 (if (decide ((IntKind.wrap .i64 (zz.2.1 + 1)) > 8192)) = true then
  (some (false, (3, IntKind.wrap .i64 (zz.2.1 + 1), 1)))
 else
  (some (true, (zz.1, IntKind.wrap .i64 (zz.2.1 + 1), 0))))
else none
theorem b12_1 (n : T27) (t8_ : T27) (x : T27) (zz : Int × Int × Nat) (r : Bool × (Int × Int × Nat)) (hF : B12_1 n t8_ x zz = some r) (K : AV → Store → Prop) (Ls : List Asn) (iL : Nat) (ca cb : Code) (tm0 : Fr) (io0 : Nat) (io1 : Nat) (q1 : compC Try.prog 19 (rnd (muL [1])) ca = some C12_10) (q2 : compC Try.prog 19 (rnd (muL [1])) cb = some C12_11) (hf : Frm tm0 [(1, .dptr (c27 n)), (2, .ptr io0 0), (3, .ptr io1 0), (8, .fn 40 [.dptr [.dptr (c27 t8_)]])]) (hK : ∀ st, SH st (bun [pt iL (.loop 19 [9] ca cb tm0 (lsW r.2.2.2) (ljW [.ret] r.2.2.2)), pt io0 (.cells (cI .i64 r.2.1)), pt io1 (.cells (cI .i64 r.2.2.1))] :: Ls) → K (.bool r.1) st) (st : Store) (hs : SH st (bun [pt iL (.loop 19 [9] ca cb tm0 (lsW zz.2.2) (ljW [.ret] zz.2.2)), pt io0 (.cells (cI .i64 zz.1)), pt io1 (.cells (cI .i64 zz.2.1))] :: Ls)) : XYield Try.prog noG iL [.dptr (c27 x)] st K := by
 unfold B12_1 at hF
 obtain ⟨c_, hF⟩ := grd_some hF
 replace hs : SH st ([pt iL (.loop 19 [9] ca cb tm0 (lsW zz.2.2) (ljW [.ret] zz.2.2)), pt io0 (.cells (cI .i64 zz.1)), pt io1 (.cells (cI .i64 zz.2.1))] ++ Ls) := SH.unbun hs
 rw [c_] at hs
 replace hs : SH st (pt iL (.loop 19 [9] ca cb tm0 .ready none) :: pt io0 (.cells (cI .i64 zz.1)) :: pt io1 (.cells (cI .i64 zz.2.1)) :: Ls) := hs
 replace hK : (∀ st, SH st (pt iL (.loop 19 [9] ca cb tm0 (lsW r.2.2.2) (ljW [.ret] r.2.2.2)) :: pt io0 (.cells (cI .i64 r.2.1)) :: pt io1 (.cells (cI .i64 r.2.2.1)) :: Ls) → K (.bool r.1) st) := fun st hs => hK st (SH.bun hs)
 refine bR' (mu := [1]) q1 q2 hs rfl rfl (fun _ _ => trivial) ?_
 rw [putL1 hf]
 refine rn 0 rfl ?_
 refine rdW hs fun st hs => ?_
 refine rn 0 rfl ?_
 refine W.o (l1 rfl (hs.g 2 rfl) rfl) ?_
 refine rn 1 rfl ?_
 refine sr hs 2 rfl rfl rfl (cs' := cI .i64 (IntKind.wrap .i64 (zz.2.1 + 1))) rfl rfl fun st hs => ?_
 refine rn 0 rfl ?_
 refine W.o (l1 rfl (hs.g 2 rfl) rfl) ?_
 refine rn 1 rfl ?_
 refine ci hF rfl (fun c_1 hF => ?_) (fun c_1 hF => ?_)
 · refine rn 0 rfl ?_
   refine sr hs 1 rfl rfl rfl (cs' := cI .i64 3) rfl rfl fun st hs => ?_
   refine rj 0 1 rfl ?_
   cases hF
   exact rdR hs (fun st hs => hK st hs)
 · refine rn 0 rfl ?_
   cases hF
   exact rdN hs (fun st hs => hK st hs)
inductive St12 where
 | p1 (n : T27) (t8_ : T27) (t2_ : Int) (count : Int)
noncomputable def G12 : St12 → Option Int
 | .p1 n t8_ t2_ count =>
  (F40 (B12_1 n t8_) t8_ (t2_, count, 0) >>= fun r_5 =>
   (if r_5.2.2 = 0 then
    (F30 n true 0 (none : Sl Bool) >>= fun r_12 =>
     (if (!r_12.1) = true then
      (some 90)
     else
      (some 0)))
   else
    (if r_5.2.2 = 1 then
     (some r_5.1)
    else
     none)))
def M12 (x : St12) (r : Int) : Prop := match x with
 | .p1 n t8_ t2_ count => ∀ (tm : Fr) (st : Store) (io0 : Nat) (io1 : Nat), Frm tm [(1, .dptr (c27 n)), (2, .ptr io0 0), (3, .ptr io1 0), (8, .fn 40 [.dptr [.dptr (c27 t8_)]])] → SH st [pt io0 (.cells (cI .i64 t2_)), pt io1 (.cells (cI .i64 count))] → W (X12 r) [.code C12_9, .blk 0, .code C12_21] tm st
theorem w12 : ∀ (x : St12) (r : Int), G12 x = some r → M12 x r := by
 intro x r hF
 cases x with
 | p1 n t8_ t2_ count =>
  dsimp only [G12] at hF
  intro tm st io0 io1 hf hs
  obtain ⟨r_5, g_6, hF⟩ := bind_some hF
  refine rg (N := 19) (fr := []) rfl hs hf.2.2.2.1 (by kernel_rfl) fun ca cb st iL q1 q2 hs => ?_
  refine d40 (σ := Int × Int × Nat) (H := fun zz => bun [pt iL (.loop 19 [9] ca cb tm (lsW zz.2.2) (ljW [.ret] zz.2.2)), pt io0 (.cells (cI .i64 zz.1)), pt io1 (.cells (cI .i64 zz.2.1))]) (Y := B12_1 n t8_) iL (fun x zz r hB K L st hs hK => b12_1 n t8_ x zz r hB K L iL ca cb tm io0 io1 q1 q2 hf hK st hs) t8_ (t2_, count, 0) _ g_6 _ _ (fun st hs => ?_) _ (SH.bun hs)
  replace hs : SH st ([pt iL (.loop 19 [9] ca cb tm (lsW r_5.2.2) (ljW [.ret] r_5.2.2)), pt io0 (.cells (cI .i64 r_5.1)), pt io1 (.cells (cI .i64 r_5.2.1))] ++ _) := SH.unbun hs
  refine ni hF (fun c_ hF => ?_) (fun c_ hF => ?_)
  · rw [c_] at hs
    refine rgN hs (by decide) fun st hs => ?_
    refine en hf ?_
    refine rn 0 rfl ?_
    refine al hs (cs := cI .i64 0) rfl fun st b_7 hs => ?_
    refine sr hs 0 rfl rfl rfl (cs' := cI .i64 0) rfl rfl fun st hs => ?_
    have hs := hs.rvNil (α := Bool) cB
    refine rn 0 rfl ?_
    refine al hs (cs := [rvV 1 (none : Sl Bool) 0]) rfl fun st b_8 hs => ?_
    refine rn 0 rfl ?_
    refine al hs (cs := cB false) rfl fun st b_10 hs => ?_
    refine sr hs 0 rfl rfl rfl (cs' := cB true) rfl rfl fun st hs => ?_
    refine rn 0 rfl ?_
    refine al hs (cs := [.nilfn]) rfl fun st b_11 hs => ?_
    refine rn 1 rfl ?_
    refine sr hs 0 rfl rfl rfl (cs' := [.fn 30 [.ptr b_10 0, .ptr b_7 0, .ptr b_8 0, .ptr b_11 0]]) rfl rfl fun st hs => ?_
    refine rn 0 rfl ?_
    refine W.o (l1 rfl (hs.g 0 rfl) rfl) ?_
    have hs : SH st (bx45_r b_8 (none : Sl Bool) :: _) := SH.bx1c 0 (hs.p 7 [2, 2, 0, 0, 0, 0, 0] rfl)
    obtain ⟨r_12, g_13, hF⟩ := bind_some hF
    refine cv rfl (by kernel_rfl) (ale rfl) (d30 n true 0 (none : Sl Bool) _ g_13 _ _ b_10 b_7 b_8 b_11 (fun st hs => ?_) _ (hs.p 6 [2, 2, 0, 0, 0, 0] rfl))
    refine rn 0 rfl ?_
    refine W.o (l1 rfl (hs.g 0 rfl) rfl) ?_
    refine rn 1 rfl ?_
    refine ci hF rfl (fun c_14 hF => ?_) (fun c_14 hF => ?_)
    · refine rn 0 rfl ?_
      refine sr hs 4 rfl rfl rfl (cs' := cI .i64 90) rfl rfl fun st hs => ?_
      refine rn 0 rfl ?_
      cases hF
      exact rD (rl_cell1 rfl (hs.g 4 rfl) (LR.whole _ _) rl0) rfl
    · refine rn 0 rfl ?_
      refine sr hs 4 rfl rfl rfl (cs' := cI .i64 0) rfl rfl fun st hs => ?_
      refine rn 0 rfl ?_
      cases hF
      exact rD (rl_cell1 rfl (hs.g 4 rfl) (LR.whole _ _) rl0) rfl
  · refine ni hF (fun c_ hF => ?_) (fun c_ hF => ?_)
    · rw [c_] at hs
      refine rgR (fun _ _ => rfl) hs (by decide) fun st hs => ?_
      refine en hf ?_
      cases hF
      exact eD (rl_cell1 rfl (hs.g 0 rfl) (LR.whole _ _) rl0) rfl
    · cases hF
noncomputable def F12 (n : T27) : Option Int :=
 (F29 n >>= fun r_3 =>
  (G12 (.p1 n r_3 0 0)))
theorem d12 (n : T27) (r : Int) (hF : F12 n = some r) : DFun Try.prog noG 12 [v27 n] (AV.int .i64 r) := by
 unfold F12 at hF
 refine bD k12 rfl ?_
 have hs : SH [] [] := SH.nil
 generalize ([] : Store) = st at hs ⊢
 refine rn 0 rfl ?_
 refine W.o (e_boxD (cs := c27 n) rfl (by rw [c27_len]; rfl) (c27_one _)) ?_
 refine al hs (cs := cI .i64 0) rfl fun st b_1 hs => ?_
 refine rn 0 rfl ?_
 refine al hs (cs := cI .i64 0) rfl fun st b_2 hs => ?_
 refine sr hs 0 rfl rfl rfl (cs' := cI .i64 0) rfl rfl fun st hs => ?_
 obtain ⟨r_3, g_4, hF⟩ := bind_some hF
 refine rn 0 rfl ?_
 refine df (d29 n _ g_4) rfl ?_
 refine rj 0 2 rfl ?_
 exact w12 (.p1 n r_3 0 0) _ hF _ _ b_1 b_2 ⟨rfl, rfl, rfl, rfl, trivial⟩ (hs.p 2 [1, 0] rfl)
/-! ### 27: (*paddock/nfa.compiler).put -/
def C27_1 : ACode := .s (.ops [q 3 (.boxD 9 1), q 4 (.mv (ki 0))]) (.s (.draw [] 0 1 [q 5 (.mv 0), q 6 (.mv 0), q 7 (.nilck 6), q 8 (.faddr 0 7), q 9 (.load1 8), q 10 (.loadN 9 3), q 11 (.bslice 9 1 true [(.int .u8 0), (.int .u64 0), (.int .u64 0), (.int .u64 0), (.int .u64 0), (.int .i64 0), (.int .i64 0), (.int .i64 0), (.int .i64 0)] [(0, (9, 10))] false)] [q 12 (.appR 9 72 9 11), q 13 (.nilck 5), q 14 (.faddr 0 13), q0 (.store 1 14 12)]) (.s (.ops [q 15 (.mv 0), q 16 (.nilck 15), q 17 (.faddr 0 16), q 18 (.load1 17), q 19 (.len 18), q 20 (.binI .sub 19 (ki 1)), q 4 (.mv 20)]) .ret))
def R27 : List RA := [(.tmp 4)]
theorem k27 : compF Try.prog (muL [3, 12]) 27 = some ⟨21, C27_1, R27⟩ := by kernel_rfl
noncomputable abbrev X27 (K : AV → Store → Prop) : Cx := cK Try.prog noG 21 R27 (isK K) [3, 12]
noncomputable def F27 (c : T65) (x_ : T52) : Option (Int × T65) :=
 (if ((ls c.code).length + (ls (some ([x_] : List T52))).length) * 72 ≤ 140737488355328 then
  (some (IntKind.wrap .i64 (((ls (sapp c.code (ls (some ([x_] : List T52))))).length : Int) - 1), ({ c with code := sapp c.code (ls (some ([x_] : List T52))) } : T65)))
 else none)
theorem d27 (c : T65) (x_ : T52) (r : Int × T65) (hF : F27 c x_ = some r) : ∀ (K : AV → Store → Prop) (Ls : List Asn) (iP0 : Nat), (∀ st, SH st (bx65_0r iP0 r.2 :: Ls) → K (AV.int .i64 r.1) st) → ∀ (st : Store), SH st (bx65_0r iP0 c :: Ls) → XCall Try.prog noG 27 [.ptr iP0 0, v52 x_] st K := by
 unfold F27 at hF
 intro K Ls iP0 hK  st hs
 refine bS k27 rfl ?_
 refine rn 0 rfl ?_
 refine W.o (e_boxD (cs := c52 x_) rfl rfl rfl) ?_
 obtain ⟨j_1, hs⟩ := SH.bx1o hs
 refine rn 1 rfl ?_
 refine drn hs fun s_2 st h0 hs => ?_
 refine dn 2 rfl ?_
 refine de rfl (e_nilck rfl (h0.g 0 rfl)) ?_
 refine de rfl (e_faddr rfl (h0.g 0 rfl)) ?_
 refine de rfl (l1 rfl (h0.g 0 rfl) rfl) ?_
 refine de rfl (lND (s := c52 x_) rfl rfl rfl) ?_
 refine dbs (f := v52) ([x_] : List T52) hs 0 rfl rfl rfl rfl rfl rfl fun st hs => ?_
 refine dz ?_
 obtain ⟨g_5, hF⟩ := grd_some hF
 refine apV (f := v52) (c := c52) (ys := ls (some ([x_] : List T52))) hs 2 rfl rfl (ae_rd (rd_W (o := (some ([x_] : List T52))) (id := (List.length s_2 + 0)) rfl)) g_5 c52_len (fun _ => rfl) (fun _ => rfl) fun st b_6 hs => ?_
 refine W.o (e_nilck rfl (hs.g 1 rfl)) ?_
 refine W.o (e_faddr rfl (hs.g 1 rfl)) ?_
 refine so hs 1 rfl rfl rfl rvV_c rfl (cs' := [rvV 9 (sapp c.code (ls (some ([x_] : List T52)))) b_6] ++ ((cI .i64) (c.slots) ++ ((cI .i64) (c.free)))) rfl rfl fun st hs => ?_
 refine rn 1 rfl ?_
 refine W.o (e_nilck rfl (hs.g 1 rfl)) ?_
 refine W.o (e_faddr rfl (hs.g 1 rfl)) ?_
 refine W.o (l1 rfl (hs.g 1 rfl) rfl) ?_
 refine W.o (e_lenV hs 2 rfl rfl) ?_
 refine rn 2 rfl ?_
 have hs : SH st (bx65_0r iP0 ({ c with code := sapp c.code (ls (some ([x_] : List T52))) } : T65) :: _) := SH.bx1c b_6 (hs.p 3 [1, 1, 0] rfl)
 cases hF
 exact rS (rlt rl0) (hK _ (hs.p 2 [0] rfl)) rfl
/-! ### 58: (*paddock/nfa.states).add -/
def C58_1 : ACode := .s (.ops [q 4 (.mv (.c (.bool false)))]) (.s (.s (.ops [q 5 (.mv 0), q 6 (.nilck 5), q 7 (.faddr 0 6), q 8 (.load1 7), q 9 (.mv 1), q 10 (.iaddrL 1 8 9), q 11 (.load1 10)]) (.cond 11 (.s (.ops [q 4 (.mv (.c (.bool false)))]) .ret) .skip)) (.s (.ops [q 12 (.mv 0), q 13 (.nilck 12), q 14 (.faddr 0 13), q 15 (.load1 14), q 16 (.mv 1), q 17 (.iaddrL 1 15 16), q0 (.store 1 17 (.c (.bool true)))]) (.s (.ops [q 18 (.mv 0), q 19 (.mv 0), q 20 (.nilck 19), q 21 (.faddr 1 20), q 22 (.load1 21), q 23 (.mv 1), q 24 (.bslice 1 1 false [(.int .i64 0)] [(0, (1, 23))] false), q 25 (.app 1 8 22 24), q 26 (.nilck 18), q 27 (.faddr 1 26), q0 (.store 1 27 25)]) (.s (.ops [q 4 (.mv (.c (.bool true)))]) .ret))))
def R58 : List RA := [(.tmp 4)]
theorem k58 : compF Try.prog (muL []) 58 = some ⟨28, C58_1, R58⟩ := by kernel_rfl
noncomputable abbrev X58 (K : AV → Store → Prop) : Cx := cK Try.prog noG 28 R58 (isK K)
noncomputable def F58 (s : T92) (i : Int) : Option (Bool × T92) :=
 (ix (ls s.in_) i >>= fun v_3 =>
  (if v_3 = true then
   (some (false, s))
  else
   (ix (ls s.in_) i >>= fun v_6 =>
    (if ((ls s.list).length + (ls (some ([i] : List Int))).length) * 8 ≤ 140737488355328 then
     (some (true, ({ s with in_ := (vset s.in_ i true), list := sapp s.list (ls (some ([i] : List Int))) } : T92)))
    else none))))
theorem d58 (s : T92) (i : Int) (r : Bool × T92) (hF : F58 s i = some r) : ∀ (K : AV → Store → Prop) (Ls : List Asn) (iP0 : Nat), (∀ st, SH st (bx92_0r1o iP0 r.2 :: Ls) → K (AV.bool r.1) st) → ∀ (st : Store), SH st (bx92_0r1o iP0 s :: Ls) → XCall Try.prog noG 58 [.ptr iP0 0, AV.int .i64 i] st K := by
 unfold F58 at hF
 intro K Ls iP0 hK  st hs
 refine bS k58 rfl ?_
 obtain ⟨j_1, j_2, hs⟩ := SH.bx2o hs
 refine rn 2 rfl ?_
 refine W.o (e_nilck rfl (hs.g 0 rfl)) ?_
 refine W.o (e_faddr rfl (hs.g 0 rfl)) ?_
 refine W.o (l1 rfl (hs.g 0 rfl) rfl) ?_
 obtain ⟨v_3, g_4, hF⟩ := bind_some hF
 refine rn 1 rfl ?_
 refine W.o (e_iaddrV hs 1 rfl rfl rfl g_4) ?_
 refine W.o (e_load1 rfl (SH.gv hs 1 rfl g_4) (LR.cast (LR.comp (LR.whole _ _) (lrV_get cB_len g_4)) (by omega))) ?_
 refine rn 0 rfl ?_
 refine ci hF rfl (fun c_5 hF => ?_) (fun c_5 hF => ?_)
 · refine rn 1 rfl ?_
   have hs : SH st (bx92_0r1o iP0 s :: _) := SH.bx2c j_1 j_2 (hs.p 3 [0, 0, 0] rfl)
   cases hF
   exact rS (rlt rl0) (hK _ hs) rfl
 · refine rn 1 rfl ?_
   refine W.o (e_nilck rfl (hs.g 0 rfl)) ?_
   refine W.o (e_faddr rfl (hs.g 0 rfl)) ?_
   refine W.o (l1 rfl (hs.g 0 rfl) rfl) ?_
   obtain ⟨v_6, g_7, hF⟩ := bind_some hF
   refine rn 1 rfl ?_
   refine W.o (e_iaddrV hs 1 rfl rfl rfl g_7) ?_
   refine slv hs 1 rfl rfl g_7 rfl (LR.cast (LR.comp (LR.whole _ _) (lrV_set cB_len g_7 true)) (by omega)) (cB_len _) rfl (cB_len _) (cB_one _) rfl fun st hs => ?_
   have hs := hs.cong 0 rfl (cs' := [rvV 1 (vset s.in_ i true) j_1] ++ ([ownV 1 (AV.int .i64) s.list j_2])) (by simp only [rvV_vset]) rfl
   refine rn 2 rfl ?_
   refine W.o (e_nilck rfl (hs.g 0 rfl)) ?_
   refine W.o (e_faddr rfl (hs.g 0 rfl)) ?_
   refine W.o (l1 rfl (hs.g 0 rfl) rfl) ?_
   refine rn 1 rfl ?_
   refine bs (f := AV.int .i64) ([i] : List Int) hs rfl rfl rfl rfl fun st b_8 hs => ?_
   obtain ⟨g_9, hF⟩ := grd_some hF
   refine ap (ys := ls (some ([i] : List Int))) hs 3 rfl rfl (ae_rd (rd_W (o := (some ([i] : List Int))) (id := b_8) rfl)) g_9 (fun _ => rfl) fun st b_10 hs => ?_
   refine W.o (e_nilck rfl (hs.g 1 rfl)) ?_
   refine W.o (e_faddr rfl (hs.g 1 rfl)) ?_
   refine so hs 1 rfl rfl rfl ownV_c rfl (cs' := [rvV 1 (vset s.in_ i true) j_1] ++ ([ownV 1 (AV.int .i64) (sapp s.list (ls (some ([i] : List Int)))) b_10])) rfl rfl fun st hs => ?_
   refine rn 1 rfl ?_
   have hs : SH st (bx92_0r1o iP0 ({ s with in_ := (vset s.in_ i true), list := sapp s.list (ls (some ([i] : List Int))) } : T92) :: _) := SH.bx2c j_1 b_10 (hs.p 4 [1, 1, 1, 0] rfl)
   cases hF
   exact rS (rlt rl0) (hK _ (hs.p 2 [0] rfl)) rfl
/-! ### 9: paddock/nfa.Size -/
def C9_1 : ACode := .s (.ops [q 1 (.boxD 9 0), q 2 (.mv (ki 0)), q 3 (.mv (ki 0))]) (.s (.s (.ops [q 6 (.loadN 9 1), qc 7 12 [6], q 4 (.mv 7)]) (.s (.ops [q 8 (.mv 4), q 9 (.binI .neq 8 (ki 0))]) (.cond 9 (.s (.ops [q 10 (.mv 4), q 2 (.mv (ki 0)), q 3 (.mv 10)]) .ret) .skip))) (.s (.s (.ops [q 11 (.loadN 9 1), qc 12 25 [11], q 5 (.mv 12)]) (.s (.ops [q 13 (.mv 5), q 14 (.binI .lss 13 (ki 16384))]) (.cond 14 (.s (.ops [q 15 (.mv 5), q 16 (.binI .add 15 (ki 1)), q 2 (.mv 16), q 3 (.mv (ki 0))]) .ret) .skip))) (.s (.ops [q 2 (.mv (ki 0)), q 3 (.mv (ki 3))]) .ret)))
def R9 : List RA := [(.tmp 2), (.tmp 3)]
theorem k9 : compF Try.prog (muL [1]) 9 = some ⟨17, C9_1, R9⟩ := by kernel_rfl
noncomputable abbrev X9 (r : Int × Int) : Cx := cD Try.prog noG 17 R9 (AV.tup [AV.int .i64 r.1, AV.int .i64 r.2]) [1]
noncomputable def F9 (n : T27) : Option (Int × Int) :=
 (F12 n >>= fun r_1 =>
  (if (r_1 != 0) = true then
   (some (0, r_1))
  else
   (F25 n >>= fun r_4 =>
    (if (decide (r_4 < 16384)) = true then
     (some (IntKind.wrap .i64 (r_4 + 1), 0))
    else
     (some (0, 3))))))
theorem d9 (n : T27) (r : Int × Int) (hF : F9 n = some r) : DFun Try.prog noG 9 [v27 n] (AV.tup [AV.int .i64 r.1, AV.int .i64 r.2]) := by
 unfold F9 at hF
 refine bD k9 rfl ?_
 have hs : SH [] [] := SH.nil
 generalize ([] : Store) = st at hs ⊢
 refine rn 0 rfl ?_
 refine W.o (e_boxD (cs := c27 n) rfl (by rw [c27_len]; rfl) (c27_one _)) ?_
 refine rn 2 rfl ?_
 refine W.o (e_loadND rfl (DP.refl _) (c27_len _)) ?_
 obtain ⟨r_1, g_2, hF⟩ := bind_some hF
 refine df (d12 n _ g_2) rfl ?_
 refine rn 3 rfl ?_
 refine ci hF rfl (fun c_3 hF => ?_) (fun c_3 hF => ?_)
 · refine rn 3 rfl ?_
   cases hF
   exact rD (rlt (rlt rl0)) rfl
 · refine rn 0 rfl ?_
   refine W.o (e_loadND rfl (DP.refl _) (c27_len _)) ?_
   obtain ⟨r_4, g_5, hF⟩ := bind_some hF
   refine df (d25 n _ g_5) rfl ?_
   refine rn 3 rfl ?_
   refine ci hF rfl (fun c_6 hF => ?_) (fun c_6 hF => ?_)
   · refine rn 4 rfl ?_
     cases hF
     exact rD (rlt (rlt rl0)) rfl
   · refine rn 2 rfl ?_
     cases hF
     exact rD (rlt (rlt rl0)) rfl
/-! ### 39: paddock/nfa.kinds -/
def C39_1 : ACode := .s (.ops [q 0 (.alloc [.nilfn, .nilfn, .nilfn, .nilfn, .nilfn, .nilfn, .nilfn, .nilfn, .nilfn, .nilfn])]) (.s (.ops [q 1 (.build [.nilfn, .nilfn, .nilfn, .nilfn, .nilfn, .nilfn, .nilfn, .nilfn, .nilfn, .nilfn] [(1, (1, (.c (.fn 46 [])))), (2, (1, (.c (.fn 47 [])))), (8, (1, (.c (.fn 48 [])))), (9, (1, (.c (.fn 49 [])))), (7, (1, (.c (.fn 50 [])))), (3, (1, (.c (.fn 51 [])))), (6, (1, (.c (.fn 52 [])))), (4, (1, (.c (.fn 53 [])))), (5, (1, (.c (.fn 54 []))))]), q0 (.store 10 0 1)]) .ret)
def R39 : List RA := [(.cellN 0 10)]
theorem k39 : compF Try.prog (muL []) 39 = some ⟨2, C39_1, R39⟩ := by kernel_rfl
noncomputable abbrev X39 (r : Unit) : Cx := cD Try.prog noG 2 R39 (.agg [.nilfn, .fn 46 [], .fn 47 [], .fn 51 [], .fn 53 [], .fn 54 [], .fn 52 [], .fn 50 [], .fn 48 [], .fn 49 []])
noncomputable def F39  : Option Unit :=
 (some ())
theorem d39  (r : Unit) (hF : F39 = some r) : DFun Try.prog noG 39 [] (.agg [.nilfn, .fn 46 [], .fn 47 [], .fn 51 [], .fn 53 [], .fn 54 [], .fn 52 [], .fn 50 [], .fn 48 [], .fn 49 []]) := by
 unfold F39 at hF
 refine bD k39 rfl ?_
 have hs : SH [] [] := SH.nil
 generalize ([] : Store) = st at hs ⊢
 refine rn 0 rfl ?_
 refine al hs (cs := [.nilfn, .nilfn, .nilfn, .nilfn, .nilfn, .nilfn, .nilfn, .nilfn, .nilfn, .nilfn]) rfl fun st b_1 hs => ?_
 refine rn 0 rfl ?_
 refine W.o (bR (cs := [.nilfn, .fn 46 [], .fn 47 [], .fn 51 [], .fn 53 [], .fn 54 [], .fn 52 [], .fn 50 [], .fn 48 [], .fn 49 []]) rfl rfl) ?_
 refine sr hs 0 rfl rfl rfl (cs' := [.nilfn, .fn 46 [], .fn 47 [], .fn 51 [], .fn 53 [], .fn 54 [], .fn 52 [], .fn 50 [], .fn 48 [], .fn 49 []]) rfl rfl fun st hs => ?_
 refine rn 0 rfl ?_
 cases hF
 exact rD (rl_cellN rfl (hs.g 0 rfl) (LR.whole _ _) rfl rl0) rfl
/-! ### 46: paddock/nfa.kinds$1 -/
def C46_1 : ACode := .ops [q 3 (.boxD 9 1)]
def R46 : List RA := []
theorem k46 : compF Try.prog (muL [3]) 46 = some ⟨4, C46_1, R46⟩ := by kernel_rfl
noncomputable abbrev X46 (K : AV → Store → Prop) : Cx := cK Try.prog noG 4 R46 (isK K) [3]
noncomputable def F46 (c : T65) (n : T27) : Option T65 :=
 (some c)
theorem d46 (c : T65) (n : T27) (r : T65) (hF : F46 c n = some r) : ∀ (K : AV → Store → Prop) (Ls : List Asn) (iP0 : Nat), (∀ st, SH st (bx65_0r iP0 r :: Ls) → K (AV.tup []) st) → ∀ (st : Store), SH st (bx65_0r iP0 c :: Ls) → XCall Try.prog noG 46 [.ptr iP0 0, v27 n] st K := by
 unfold F46 at hF
 intro K Ls iP0 hK  st hs
 refine bS k46 rfl ?_
 refine rn 0 rfl ?_
 refine W.o (e_boxD (cs := c27 n) rfl (by rw [c27_len]; rfl) (c27_one _)) ?_
 refine rn 0 rfl ?_
 cases hF
 exact eS rl0 (hK _ hs) rfl
/-! ### 47: paddock/nfa.kinds$2 -/
def C47_1 : ACode := .s (.ops [q 3 (.boxD 9 1)]) (.ops [q 4 (.mv 0), q 5 (.faddr 1 3), q 6 (.loadN 4 5), q 7 (.build [(.int .u8 0), (.int .u64 0), (.int .u64 0), (.int .u64 0), (.int .u64 0), (.int .i64 0), (.int .i64 0), (.int .i64 0), (.int .i64 0)] [(0, (1, (ku 1))), (1, (4, 6))]), qc 8 27 [4, 7]])
def R47 : List RA := []
theorem k47 : compF Try.prog (muL [3]) 47 = some ⟨9, C47_1, R47⟩ := by kernel_rfl
noncomputable abbrev X47 (K : AV → Store → Prop) : Cx := cK Try.prog noG 9 R47 (isK K) [3]
noncomputable def F47 (c : T65) (n : T27) : Option T65 :=
 (F27 c ({ Kind := 1, Set := n.Set, To := 0, Group := 0, Last := 0, Slot := 0 } : T52) >>= fun r_1 =>
  (some r_1.2))
theorem d47 (c : T65) (n : T27) (r : T65) (hF : F47 c n = some r) : ∀ (K : AV → Store → Prop) (Ls : List Asn) (iP0 : Nat), (∀ st, SH st (bx65_0r iP0 r :: Ls) → K (AV.tup []) st) → ∀ (st : Store), SH st (bx65_0r iP0 c :: Ls) → XCall Try.prog noG 47 [.ptr iP0 0, v27 n] st K := by
 unfold F47 at hF
 intro K Ls iP0 hK  st hs
 refine bS k47 rfl ?_
 refine rn 0 rfl ?_
 refine W.o (e_boxD (cs := c27 n) rfl (by rw [c27_len]; rfl) (c27_one _)) ?_
 refine rn 1 rfl ?_
 refine W.o (e_faddrD rfl) ?_
 refine W.o (e_loadND rfl (DP.fld (DP.refl _) (lrg27_Set n)) (c24_len _)) ?_
 refine W.o (bR (cs := c52 ({ Kind := 1, Set := n.Set, To := 0, Group := 0, Last := 0, Slot := 0 } : T52)) rfl rfl) ?_
 obtain ⟨r_1, g_2, hF⟩ := bind_some hF
 refine cl (ale rfl) (d27 c ({ Kind := 1, Set := n.Set, To := 0, Group := 0, Last := 0, Slot := 0 } : T52) _ g_2 _ _ iP0 (fun st hs => ?_) _ hs)
 refine rn 0 rfl ?_
 cases hF
 exact eS rl0 (hK _ hs) rfl
end Go.Proofs.Ytjbafmnocopofaa
