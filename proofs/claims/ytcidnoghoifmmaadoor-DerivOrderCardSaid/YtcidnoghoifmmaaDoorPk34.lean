/-
  Texts of this proof, put together: D0, D1, D2, D3.
-/
import Derived.Test.YtcidnoghoifmmaaDoorPk33
section
/-
  Functions of the program's as plain functions.
-/

set_option linter.unusedVariables false
set_option linter.unusedSimpArgs false
set_option maxRecDepth 4000
set_option maxHeartbeats 4000000
namespace Go.Proofs.YtcidnoghoifmmaaDoor
open Go AW
attribute [local irreducible] W WD SH XS XLoop DFun XCall XYield
def O69_25q1 : List AOp := (q 45 (.nilck 44)).y 39 :: (q 46 (.faddr 5 45)).y 39 :: (q 47 (.load1 46)).y 39 :: (q 48 (.binI .lss 43 47)).y 39 :: (q 49 (.mv 48)).y 39 :: (q 50 (.mv 0)).n 49 :: (q 51 (.nilck 50)).n 49 :: (q 52 (.faddr 6 51)).n 49 :: (q 53 (.load1 52)).n 49 :: (q 54 (.binI .gtr 53 (ki 255))).n 49 :: (q 55 (.pick 49 (.c (.bool true)) 54)).y 39 :: (q 56 (.pick 39 55 (.c (.bool false)))).n 33 :: q 57 (.pick 33 (.c (.bool true)) 56) :: []
def O69_25q0 : List AOp := q 21 (.mv 0) :: q 22 (.nilck 21) :: q 23 (.faddr 5 22) :: q 24 (.load1 23) :: q 25 (.binI .lss 24 (ki 0)) :: q 26 (.mv 25) :: (q 27 (.mv 0)).n 26 :: (q 28 (.nilck 27)).n 26 :: (q 29 (.faddr 5 28)).n 26 :: (q 30 (.load1 29)).n 26 :: (q 31 (.binI .gtr 30 (ki 255))).n 26 :: q 32 (.pick 26 (.c (.bool true)) 31) :: q 33 (.mv 32) :: (q 34 (.mv 0)).n 33 :: (q 35 (.nilck 34)).n 33 :: (q 36 (.faddr 6 35)).n 33 :: (q 37 (.load1 36)).n 33 :: (q 38 (.binI .neq 37 (ki (-1)))).n 33 :: (q 39 (.mv 38)).n 33 :: (q 40 (.mv 0)).y 39 :: (q 41 (.nilck 40)).y 39 :: (q 42 (.faddr 6 41)).y 39 :: (q 43 (.load1 42)).y 39 :: (q 44 (.mv 0)).y 39 :: O69_25q1
def C69_24 : ACode := .s (.draw [] 0 0 O69_25q0 []) (.cond 57 (.s (.ops [q 2 (.mv (.c (.bool false)))]) .ret) .skip)
def C69_33 : ACode := .cond 58 (.ops [q 4 (.mv (ki 1))]) (.s (.s (.ops [q 61 (.binI .eql 13 (ku 1)), q 60 (.mv 61)]) (.cond 60 .skip (.s (.ops [q 62 (.binI .eql 13 (ku 2)), q 60 (.mv 62)]) (.cond 60 .skip (.s (.ops [q 63 (.binI .eql 13 (ku 7)), q 60 (.mv 63)]) (.cond 60 .skip (.s (.ops [q 64 (.binI .eql 13 (ku 8)), q 60 (.mv 64)]) (.cond 60 .skip (.ops [q 65 (.binI .eql 13 (ku 9)), q 60 (.mv 65)]))))))))) (.cond 60 .skip (.s (.ops [q 2 (.mv (.c (.bool false)))]) .ret)))
def O69_59o2 : List AOp := (q 114 (.faddr 0 113)).n 111 :: (q 115 (.load1 114)).n 111 :: (q 116 (.binI .eql 115 (ku 7))).n 111 :: (q 117 (.pick 111 (.c (.bool true)) 116)).y 105 :: (q 118 (.mv 117)).y 105 :: (q 119 (.mv 0)).n 118 :: (q 120 (.nilck 119)).n 118 :: (q 121 (.faddr 7 120)).n 118 :: (q 122 (.load1 121)).n 118 :: (q 123 (.binI .eql 122 (ki 0))).n 118 :: (q 124 (.pick 118 (.c (.bool true)) 123)).y 105 :: q 125 (.pick 105 124 (.c (.bool false))) :: q 2 (.mv 125) :: []
def O69_59o1 : List AOp := (q 90 (.mv 89)).y 84 :: (q 91 (.mv 0)).n 90 :: (q 92 (.nilck 91)).n 90 :: (q 93 (.faddr 5 92)).n 90 :: (q 94 (.load1 93)).n 90 :: (q 95 (.binI .eql 94 (ki 0))).n 90 :: (q 96 (.mv 95)).n 90 :: (q 97 (.mv 0)).y 96 :: (q 98 (.nilck 97)).y 96 :: (q 99 (.faddr 6 98)).y 96 :: (q 100 (.load1 99)).y 96 :: (q 101 (.binI .eql 100 (ki 0))).y 96 :: (q 102 (.pick 96 101 (.c (.bool false)))).n 90 :: (q 103 (.pick 90 (.c (.bool true)) 102)).y 84 :: q 104 (.pick 84 103 (.c (.bool false))) :: q 105 (.mv 104) :: (q 106 (.mv 0)).y 105 :: (q 107 (.nilck 106)).y 105 :: (q 108 (.faddr 0 107)).y 105 :: (q 109 (.load1 108)).y 105 :: (q 110 (.binI .eql 109 (ku 6))).y 105 :: (q 111 (.mv 110)).y 105 :: (q 112 (.mv 0)).n 111 :: (q 113 (.nilck 112)).n 111 :: O69_59o2
def O69_59o0 : List AOp := q 66 (.mv 3) :: q 67 (.mv 4) :: q 68 (.binI .eql 66 67) :: q 69 (.mv 68) :: (q 70 (.mv 0)).y 69 :: (q 71 (.nilck 70)).y 69 :: (q 72 (.faddr 0 71)).y 69 :: (q 73 (.load1 72)).y 69 :: (q 74 (.binI .eql 73 (ku 2))).y 69 :: (q 75 (.mv 74)).y 69 :: (q 76 (.mv 0)).n 75 :: (q 77 (.nilck 76)).n 75 :: (q 78 (.faddr 1 77)).n 75 :: (q 79 (.loadN 4 78)).n 75 :: (q 80 (.build [(.int .u64 0), (.int .u64 0), (.int .u64 0), (.int .u64 0)] [])).n 75 :: (q 81 (.eqA false [.i, .i, .i, .i] 79 80)).n 75 :: (q 82 (.pick 75 (.c (.bool true)) 81)).y 69 :: q 83 (.pick 69 82 (.c (.bool false))) :: q 84 (.mv 83) :: (q 85 (.mv 0)).y 84 :: (q 86 (.nilck 85)).y 84 :: (q 87 (.faddr 0 86)).y 84 :: (q 88 (.load1 87)).y 84 :: (q 89 (.binI .eql 88 (ku 5))).y 84 :: O69_59o1
def C69_58 : ACode := .s (.ops O69_59o0) .ret
def C69_1 : ACode := .s (.ops [q 2 (.mv (.c (.bool false)))]) (.s (.ops [q 5 (.mv 0), q 6 (.nilck 5), q 7 (.faddr 8 6), q 8 (.load1 7), q 9 (.len 8), q 3 (.mv 9)]) (.s (.ops [q 4 (.mv (ki 0))]) (.s (.s (.ops [q 10 (.mv 0), q 11 (.nilck 10), q 12 (.faddr 0 11), q 13 (.load1 12)]) (.block 0 (.s (.s (.ops [q 15 (.binI .eql 13 (ku 3)), q 14 (.mv 15)]) (.cond 14 .skip (.ops [q 16 (.binI .eql 13 (ku 4)), q 14 (.mv 16)]))) (.cond 14 (.ops [q 17 (.mv 3), q 18 (.max [17, (ki 2)]), q 4 (.mv 18)]) (.s (.ops [q 20 (.binI .eql 13 (ku 5)), q 19 (.mv 20)]) (.cond 19 (.s (.ops [q 4 (.mv (ki 1))]) C69_24) (.s (.ops [q 59 (.binI .eql 13 (ku 6)), q 58 (.mv 59)]) C69_33))))))) C69_58)))
def R69 : List RA := [(.tmp 2)]
theorem k69 : compF Tryd.prog (muL []) 69 = some ⟨126, C69_1, R69⟩ := by kernel_rfl
noncomputable abbrev X69 (r : Bool) : Cx := cD Tryd.prog gE 126 R69 (AV.bool r)
inductive St69 where
 | p1 (n : T27) (kids : Int) (want : Int)
noncomputable def G69 : St69 → Option Bool | .p1 n kids want => (if (kids == want) = true then (if (n.Kind == 2) = true then (if (n.Kind == 5) = true then (if (n.Kind == 6) = true then (some true) else (if (n.Kind == 7) = true then (some true) else (some (n.Group == 0)))) else (if (n.Min == 0) = true then (if (n.Max == 0) = true then (if (n.Kind == 6) = true then (some true) else (if (n.Kind == 7) = true then (some true) else (some (n.Group == 0)))) else (some false)) else (some false))) else (if (decide (n.Set = (Arr.rep 4 (0 : Int)))) = true then (if (n.Kind == 5) = true then (if (n.Kind == 6) = true then (some true) else (if (n.Kind == 7) = true then (some true) else (some (n.Group == 0)))) else (if (n.Min == 0) = true then (if (n.Max == 0) = true then (if (n.Kind == 6) = true then (some true) else (if (n.Kind == 7) = true then (some true) else (some (n.Group == 0)))) else (some false)) else (some false))) else (some false))) else (some false))
def M69 (x : St69) (r : Bool) : Prop := match x with | .p1 n kids want => ∀ (tm : Fr) (st : Store), Frm tm [(0, .dptr (c27 n)), (3, AV.int .i64 kids), (4, AV.int .i64 want)] → SH st [] → W (X69 r) [.code C69_58] tm st
theorem w69 : ∀ (x : St69) (r : Bool), G69 x = some r → M69 x r := by
 intro x r hF
 cases x with
 | p1 n kids want =>
  dsimp only [G69] at hF
  intro tm st hf hs
  refine en hf ?_
  refine rn 4 rfl ?_
  refine bi hF (fun c_15 hF => ?_) (fun c_15 hF => ?_)
  · refine wfx 69 rfl c_15 ?_
    refine rn 1 rfl ?_
    refine W.on rfl rfl ?_
    refine W.o (e_nilckD rfl) ?_
    refine W.on rfl rfl ?_
    refine W.o (e_faddrD rfl) ?_
    refine W.on rfl rfl ?_
    refine W.o (e_load1D rfl (DP.fld (DP.refl _) (lrg27_Kind n))) ?_
    refine rn 2 rfl ?_
    refine bi hF (fun c_16 hF => ?_) (fun c_16 hF => ?_)
    · refine wfx 75 rfl c_16 ?_
      refine rn 10 rfl ?_
      refine W.on rfl rfl ?_
      refine W.o (e_nilckD rfl) ?_
      refine W.on rfl rfl ?_
      refine W.o (e_faddrD rfl) ?_
      refine W.on rfl rfl ?_
      refine W.o (e_load1D rfl (DP.fld (DP.refl _) (lrg27_Kind n))) ?_
      refine rn 2 rfl ?_
      refine bi hF (fun c_17 hF => ?_) (fun c_17 hF => ?_)
      · refine wfx 90 rfl c_17 ?_
        refine rn 16 rfl ?_
        refine W.on rfl rfl ?_
        refine W.o (e_nilckD rfl) ?_
        refine W.on rfl rfl ?_
        refine W.o (e_faddrD rfl) ?_
        refine W.on rfl rfl ?_
        refine W.o (e_load1D rfl (DP.fld (DP.refl _) (lrg27_Kind n))) ?_
        refine rn 2 rfl ?_
        refine bi hF (fun c_18 hF => ?_) (fun c_18 hF => ?_)
        · refine wfx 111 rfl c_18 ?_
          refine rn 15 rfl ?_
          cases hF
          exact rD (rlt rl0) rfl
        · refine wfx 111 rfl c_18 ?_
          refine rn 1 rfl ?_
          refine W.on rfl rfl ?_
          refine W.o (e_nilckD rfl) ?_
          refine W.on rfl rfl ?_
          refine W.o (e_faddrD rfl) ?_
          refine W.on rfl rfl ?_
          refine W.o (e_load1D rfl (DP.fld (DP.refl _) (lrg27_Kind n))) ?_
          refine rn 3 rfl ?_
          refine bi hF (fun c_19 hF => ?_) (fun c_19 hF => ?_)
          · refine wfx 118 rfl c_19 ?_
            refine rn 8 rfl ?_
            cases hF
            exact rD (rlt rl0) rfl
          · refine wfx 118 rfl c_19 ?_
            refine rn 1 rfl ?_
            refine W.on rfl rfl ?_
            refine W.o (e_nilckD rfl) ?_
            refine W.on rfl rfl ?_
            refine W.o (e_faddrD rfl) ?_
            refine W.on rfl rfl ?_
            refine W.o (e_load1D rfl (DP.fld (DP.refl _) (lrg27_Group n))) ?_
            refine rn 4 rfl ?_
            cases hF
            exact rD (rlt rl0) rfl
      · refine wfx 90 rfl c_17 ?_
        refine rn 1 rfl ?_
        refine W.on rfl rfl ?_
        refine W.o (e_nilckD rfl) ?_
        refine W.on rfl rfl ?_
        refine W.o (e_faddrD rfl) ?_
        refine W.on rfl rfl ?_
        refine W.o (e_load1D rfl (DP.fld (DP.refl _) (lrg27_Min n))) ?_
        refine rn 2 rfl ?_
        refine bi hF (fun c_20 hF => ?_) (fun c_20 hF => ?_)
        · refine wfx 96 rfl c_20 ?_
          refine rn 1 rfl ?_
          refine W.on rfl rfl ?_
          refine W.o (e_nilckD rfl) ?_
          refine W.on rfl rfl ?_
          refine W.o (e_faddrD rfl) ?_
          refine W.on rfl rfl ?_
          refine W.o (e_load1D rfl (DP.fld (DP.refl _) (lrg27_Max n))) ?_
          refine rn 5 rfl ?_
          refine bi hF (fun c_21 hF => ?_) (fun c_21 hF => ?_)
          · refine wfx 105 rfl c_21 ?_
            refine rn 1 rfl ?_
            refine W.on rfl rfl ?_
            refine W.o (e_nilckD rfl) ?_
            refine W.on rfl rfl ?_
            refine W.o (e_faddrD rfl) ?_
            refine W.on rfl rfl ?_
            refine W.o (e_load1D rfl (DP.fld (DP.refl _) (lrg27_Kind n))) ?_
            refine rn 2 rfl ?_
            refine bi hF (fun c_22 hF => ?_) (fun c_22 hF => ?_)
            · refine wfx 111 rfl c_22 ?_
              refine rn 15 rfl ?_
              cases hF
              exact rD (rlt rl0) rfl
            · refine wfx 111 rfl c_22 ?_
              refine rn 1 rfl ?_
              refine W.on rfl rfl ?_
              refine W.o (e_nilckD rfl) ?_
              refine W.on rfl rfl ?_
              refine W.o (e_faddrD rfl) ?_
              refine W.on rfl rfl ?_
              refine W.o (e_load1D rfl (DP.fld (DP.refl _) (lrg27_Kind n))) ?_
              refine rn 3 rfl ?_
              refine bi hF (fun c_23 hF => ?_) (fun c_23 hF => ?_)
              · refine wfx 118 rfl c_23 ?_
                refine rn 8 rfl ?_
                cases hF
                exact rD (rlt rl0) rfl
              · refine wfx 118 rfl c_23 ?_
                refine rn 1 rfl ?_
                refine W.on rfl rfl ?_
                refine W.o (e_nilckD rfl) ?_
                refine W.on rfl rfl ?_
                refine W.o (e_faddrD rfl) ?_
                refine W.on rfl rfl ?_
                refine W.o (e_load1D rfl (DP.fld (DP.refl _) (lrg27_Group n))) ?_
                refine rn 4 rfl ?_
                cases hF
                exact rD (rlt rl0) rfl
          · refine wfx 105 rfl c_21 ?_
            refine rn 21 rfl ?_
            cases hF
            exact rD (rlt rl0) rfl
        · refine wfx 96 rfl c_20 ?_
          refine rn 30 rfl ?_
          cases hF
          exact rD (rlt rl0) rfl
    · refine wfx 75 rfl c_16 ?_
      refine rn 1 rfl ?_
      refine W.on rfl rfl ?_
      refine W.o (e_nilckD rfl) ?_
      refine W.on rfl rfl ?_
      refine W.o (e_faddrD rfl) ?_
      refine W.on rfl rfl ?_
      refine W.o (e_loadND rfl (DP.fld (DP.refl _) (lrg27_Set n)) (c24_len _)) ?_
      refine W.on rfl rfl ?_
      refine W.o (e_build (z := [(.int .u64 0), (.int .u64 0), (.int .u64 0), (.int .u64 0)]) (cs := c24 (Arr.rep 4 (0 : Int))) pk_nil (show fillA (c24 (Arr.rep 4 (0 : Int))) _ = _ from (fl_nil _))) ?_
      refine W.on rfl rfl ?_
      refine W.o (e_eqA rfl rfl (c24_eq n.Set (Arr.rep 4 (0 : Int)))) ?_
      refine rn 3 rfl ?_
      refine bi hF (fun c_24 hF => ?_) (fun c_24 hF => ?_)
      · refine wfx 84 rfl c_24 ?_
        refine rn 1 rfl ?_
        refine W.on rfl rfl ?_
        refine W.o (e_nilckD rfl) ?_
        refine W.on rfl rfl ?_
        refine W.o (e_faddrD rfl) ?_
        refine W.on rfl rfl ?_
        refine W.o (e_load1D rfl (DP.fld (DP.refl _) (lrg27_Kind n))) ?_
        refine rn 2 rfl ?_
        refine bi hF (fun c_25 hF => ?_) (fun c_25 hF => ?_)
        · refine wfx 90 rfl c_25 ?_
          refine rn 16 rfl ?_
          refine W.on rfl rfl ?_
          refine W.o (e_nilckD rfl) ?_
          refine W.on rfl rfl ?_
          refine W.o (e_faddrD rfl) ?_
          refine W.on rfl rfl ?_
          refine W.o (e_load1D rfl (DP.fld (DP.refl _) (lrg27_Kind n))) ?_
          refine rn 2 rfl ?_
          refine bi hF (fun c_26 hF => ?_) (fun c_26 hF => ?_)
          · refine wfx 111 rfl c_26 ?_
            refine rn 15 rfl ?_
            cases hF
            exact rD (rlt rl0) rfl
          · refine wfx 111 rfl c_26 ?_
            refine rn 1 rfl ?_
            refine W.on rfl rfl ?_
            refine W.o (e_nilckD rfl) ?_
            refine W.on rfl rfl ?_
            refine W.o (e_faddrD rfl) ?_
            refine W.on rfl rfl ?_
            refine W.o (e_load1D rfl (DP.fld (DP.refl _) (lrg27_Kind n))) ?_
            refine rn 3 rfl ?_
            refine bi hF (fun c_27 hF => ?_) (fun c_27 hF => ?_)
            · refine wfx 118 rfl c_27 ?_
              refine rn 8 rfl ?_
              cases hF
              exact rD (rlt rl0) rfl
            · refine wfx 118 rfl c_27 ?_
              refine rn 1 rfl ?_
              refine W.on rfl rfl ?_
              refine W.o (e_nilckD rfl) ?_
              refine W.on rfl rfl ?_
              refine W.o (e_faddrD rfl) ?_
              refine W.on rfl rfl ?_
              refine W.o (e_load1D rfl (DP.fld (DP.refl _) (lrg27_Group n))) ?_
              refine rn 4 rfl ?_
              cases hF
              exact rD (rlt rl0) rfl
        · refine wfx 90 rfl c_25 ?_
          refine rn 1 rfl ?_
          refine W.on rfl rfl ?_
          refine W.o (e_nilckD rfl) ?_
          refine W.on rfl rfl ?_
          refine W.o (e_faddrD rfl) ?_
          refine W.on rfl rfl ?_
          refine W.o (e_load1D rfl (DP.fld (DP.refl _) (lrg27_Min n))) ?_
          refine rn 2 rfl ?_
          refine bi hF (fun c_28 hF => ?_) (fun c_28 hF => ?_)
          · refine wfx 96 rfl c_28 ?_
            refine rn 1 rfl ?_
            refine W.on rfl rfl ?_
            refine W.o (e_nilckD rfl) ?_
            refine W.on rfl rfl ?_
            refine W.o (e_faddrD rfl) ?_
            refine W.on rfl rfl ?_
            refine W.o (e_load1D rfl (DP.fld (DP.refl _) (lrg27_Max n))) ?_
            refine rn 5 rfl ?_
            refine bi hF (fun c_29 hF => ?_) (fun c_29 hF => ?_)
            · refine wfx 105 rfl c_29 ?_
              refine rn 1 rfl ?_
              refine W.on rfl rfl ?_
              refine W.o (e_nilckD rfl) ?_
              refine W.on rfl rfl ?_
              refine W.o (e_faddrD rfl) ?_
              refine W.on rfl rfl ?_
              refine W.o (e_load1D rfl (DP.fld (DP.refl _) (lrg27_Kind n))) ?_
              refine rn 2 rfl ?_
              refine bi hF (fun c_30 hF => ?_) (fun c_30 hF => ?_)
              · refine wfx 111 rfl c_30 ?_
                refine rn 15 rfl ?_
                cases hF
                exact rD (rlt rl0) rfl
              · refine wfx 111 rfl c_30 ?_
                refine rn 1 rfl ?_
                refine W.on rfl rfl ?_
                refine W.o (e_nilckD rfl) ?_
                refine W.on rfl rfl ?_
                refine W.o (e_faddrD rfl) ?_
                refine W.on rfl rfl ?_
                refine W.o (e_load1D rfl (DP.fld (DP.refl _) (lrg27_Kind n))) ?_
                refine rn 3 rfl ?_
                refine bi hF (fun c_31 hF => ?_) (fun c_31 hF => ?_)
                · refine wfx 118 rfl c_31 ?_
                  refine rn 8 rfl ?_
                  cases hF
                  exact rD (rlt rl0) rfl
                · refine wfx 118 rfl c_31 ?_
                  refine rn 1 rfl ?_
                  refine W.on rfl rfl ?_
                  refine W.o (e_nilckD rfl) ?_
                  refine W.on rfl rfl ?_
                  refine W.o (e_faddrD rfl) ?_
                  refine W.on rfl rfl ?_
                  refine W.o (e_load1D rfl (DP.fld (DP.refl _) (lrg27_Group n))) ?_
                  refine rn 4 rfl ?_
                  cases hF
                  exact rD (rlt rl0) rfl
            · refine wfx 105 rfl c_29 ?_
              refine rn 21 rfl ?_
              cases hF
              exact rD (rlt rl0) rfl
          · refine wfx 96 rfl c_28 ?_
            refine rn 30 rfl ?_
            cases hF
            exact rD (rlt rl0) rfl
      · refine wfx 84 rfl c_24 ?_
        refine rn 42 rfl ?_
        cases hF
        exact rD (rlt rl0) rfl
  · refine wfx 69 rfl c_15 ?_
    refine rn 57 rfl ?_
    cases hF
    exact rD (rlt rl0) rfl
noncomputable def F69 (n : T27) : Option Bool := (if (n.Kind == 3) = true then (G69 (.p1 n ((ls n.Kids).length : Int) (if 2 > ((ls n.Kids).length : Int) then 2 else ((ls n.Kids).length : Int)))) else (if (n.Kind == 4) = true then (G69 (.p1 n ((ls n.Kids).length : Int) (if 2 > ((ls n.Kids).length : Int) then 2 else ((ls n.Kids).length : Int)))) else (if (n.Kind == 5) = true then (if (decide (n.Min < 0)) = true then (some false) else (if (decide (n.Min > 255)) = true then (some false) else (if (n.Max != (-1)) = true then (if (decide (n.Max < n.Min)) = true then (some false) else (if (decide (n.Max > 255)) = true then (some false) else (G69 (.p1 n ((ls n.Kids).length : Int) 1)))) else (G69 (.p1 n ((ls n.Kids).length : Int) 1))))) else (if (n.Kind == 6) = true then (G69 (.p1 n ((ls n.Kids).length : Int) 1)) else (if (n.Kind == 1) = true then (G69 (.p1 n ((ls n.Kids).length : Int) 0)) else (if (n.Kind == 2) = true then (G69 (.p1 n ((ls n.Kids).length : Int) 0)) else (if (n.Kind == 7) = true then (G69 (.p1 n ((ls n.Kids).length : Int) 0)) else (if (n.Kind == 8) = true then (G69 (.p1 n ((ls n.Kids).length : Int) 0)) else (if (n.Kind == 9) = true then (G69 (.p1 n ((ls n.Kids).length : Int) 0)) else (some false))))))))))
theorem d69 (n : T27) (r : Bool) (hF : F69 n = some r) : DFun Tryd.prog gE 69 [.dptr (c27 n)] (AV.bool r) := by
 unfold F69 at hF
 refine bD k69 rfl ?_
 have hs : SH [] [] := SH.nil
 generalize ([] : Store) = st at hs ⊢
 refine rn 2 rfl ?_
 refine W.o (e_nilckD rfl) ?_
 refine W.o (e_faddrD rfl) ?_
 refine W.o (e_load1D rfl (DP.fld (DP.refl _) (lrg27_Kids n))) ?_
 refine W.o (e_len (rd_V rfl)) ?_
 refine rn 3 rfl ?_
 refine W.o (e_nilckD rfl) ?_
 refine W.o (e_faddrD rfl) ?_
 refine W.o (e_load1D rfl (DP.fld (DP.refl _) (lrg27_Kind n))) ?_
 refine rn 2 rfl ?_
 refine ci hF rfl (fun c_1 hF => ?_) (fun c_1 hF => ?_)
 · refine rn 0 rfl ?_
   refine ct rfl c_1 ?_
   refine rj 3 2 rfl ?_
   exact w69 (.p1 n ((ls n.Kids).length : Int) (if 2 > ((ls n.Kids).length : Int) then 2 else ((ls n.Kids).length : Int))) _ hF _ _ ⟨rfl, rfl, rfl, trivial⟩ hs
 · refine rn 2 rfl ?_
   refine ci hF rfl (fun c_2 hF => ?_) (fun c_2 hF => ?_)
   · refine rj 3 2 rfl ?_
     exact w69 (.p1 n ((ls n.Kids).length : Int) (if 2 > ((ls n.Kids).length : Int) then 2 else ((ls n.Kids).length : Int))) _ hF _ _ ⟨rfl, rfl, rfl, trivial⟩ hs
   · refine rn 2 rfl ?_
     refine ci hF rfl (fun c_3 hF => ?_) (fun c_3 hF => ?_)
     · refine rn 1 rfl ?_
       have h0 := hs
       refine dr0 ?_
       refine dn 1 rfl ?_
       refine de rfl (e_nilckD rfl) ?_
       refine de rfl (e_faddrD rfl) ?_
       refine de rfl (e_load1D rfl (DP.fld (DP.refl _) (lrg27_Min n))) ?_
       refine dn 2 rfl ?_
       refine bi hF (fun c_4 hF => ?_) (fun c_4 hF => ?_)
       · refine dfx 26 rfl c_4 ?_
         refine dn 31 rfl ?_
         refine dz ?_
         refine rn 0 rfl ?_
         refine ct rfl rfl ?_
         refine rn 1 rfl ?_
         cases hF
         exact rD (rlt rl0) rfl
       · refine dfx 26 rfl c_4 ?_
         refine dn 1 rfl ?_
         refine don rfl rfl ?_
         refine de rfl (e_nilckD rfl) ?_
         refine don rfl rfl ?_
         refine de rfl (e_faddrD rfl) ?_
         refine don rfl rfl ?_
         refine de rfl (e_load1D rfl (DP.fld (DP.refl _) (lrg27_Min n))) ?_
         refine dn 3 rfl ?_
         refine bi hF (fun c_5 hF => ?_) (fun c_5 hF => ?_)
         · refine dfx 33 rfl c_5 ?_
           refine dn 24 rfl ?_
           refine dz ?_
           refine rn 0 rfl ?_
           refine ct rfl rfl ?_
           refine rn 1 rfl ?_
           cases hF
           exact rD (rlt rl0) rfl
         · refine dfx 33 rfl c_5 ?_
           refine dn 1 rfl ?_
           refine don rfl rfl ?_
           refine de rfl (e_nilckD rfl) ?_
           refine don rfl rfl ?_
           refine de rfl (e_faddrD rfl) ?_
           refine don rfl rfl ?_
           refine de rfl (e_load1D rfl (DP.fld (DP.refl _) (lrg27_Max n))) ?_
           refine dn 2 rfl ?_
           refine bi hF (fun c_6 hF => ?_) (fun c_6 hF => ?_)
           · refine dfx 39 rfl c_6 ?_
             refine dn 1 rfl ?_
             refine don rfl rfl ?_
             refine de rfl (e_nilckD rfl) ?_
             refine don rfl rfl ?_
             refine de rfl (e_faddrD rfl) ?_
             refine don rfl rfl ?_
             refine de rfl (e_load1D rfl (DP.fld (DP.refl _) (lrg27_Max n))) ?_
             refine dn 1 rfl ?_
             refine don rfl rfl ?_
             refine de rfl (e_nilckD rfl) ?_
             refine don rfl rfl ?_
             refine de rfl (e_faddrD rfl) ?_
             refine don rfl rfl ?_
             refine de rfl (e_load1D rfl (DP.fld (DP.refl _) (lrg27_Min n))) ?_
             refine dn 2 rfl ?_
             refine bi hF (fun c_7 hF => ?_) (fun c_7 hF => ?_)
             · refine dfx 49 rfl c_7 ?_
               refine dn 8 rfl ?_
               refine dz ?_
               refine rn 0 rfl ?_
               refine ct rfl rfl ?_
               refine rn 1 rfl ?_
               cases hF
               exact rD (rlt rl0) rfl
             · refine dfx 49 rfl c_7 ?_
               refine dn 1 rfl ?_
               refine don rfl rfl ?_
               refine de rfl (e_nilckD rfl) ?_
               refine don rfl rfl ?_
               refine de rfl (e_faddrD rfl) ?_
               refine don rfl rfl ?_
               refine de rfl (e_load1D rfl (DP.fld (DP.refl _) (lrg27_Max n))) ?_
               refine dn 4 rfl ?_
               refine dz ?_
               refine rn 0 rfl ?_
               refine ci hF rfl (fun c_8 hF => ?_) (fun c_8 hF => ?_)
               · refine rn 1 rfl ?_
                 cases hF
                 exact rD (rlt rl0) rfl
               · refine rj 0 2 rfl ?_
                 exact w69 (.p1 n ((ls n.Kids).length : Int) 1) _ hF _ _ ⟨rfl, rfl, rfl, trivial⟩ hs
           · refine dfx 39 rfl c_6 ?_
             refine dn 18 rfl ?_
             refine dz ?_
             refine rn 0 rfl ?_
             refine cf rfl rfl ?_
             refine rj 0 2 rfl ?_
             exact w69 (.p1 n ((ls n.Kids).length : Int) 1) _ hF _ _ ⟨rfl, rfl, rfl, trivial⟩ hs
     · refine rn 2 rfl ?_
       refine ci hF rfl (fun c_9 hF => ?_) (fun c_9 hF => ?_)
       · refine rj 1 2 rfl ?_
         exact w69 (.p1 n ((ls n.Kids).length : Int) 1) _ hF _ _ ⟨rfl, rfl, rfl, trivial⟩ hs
       · refine rn 2 rfl ?_
         refine ci hF rfl (fun c_10 hF => ?_) (fun c_10 hF => ?_)
         · refine rn 0 rfl ?_
           refine ct rfl c_10 ?_
           refine rj 0 2 rfl ?_
           exact w69 (.p1 n ((ls n.Kids).length : Int) 0) _ hF _ _ ⟨rfl, rfl, rfl, trivial⟩ hs
         · refine rn 2 rfl ?_
           refine ci hF rfl (fun c_11 hF => ?_) (fun c_11 hF => ?_)
           · refine rn 0 rfl ?_
             refine ct rfl c_11 ?_
             refine rj 0 2 rfl ?_
             exact w69 (.p1 n ((ls n.Kids).length : Int) 0) _ hF _ _ ⟨rfl, rfl, rfl, trivial⟩ hs
           · refine rn 2 rfl ?_
             refine ci hF rfl (fun c_12 hF => ?_) (fun c_12 hF => ?_)
             · refine rn 0 rfl ?_
               refine ct rfl c_12 ?_
               refine rj 0 2 rfl ?_
               exact w69 (.p1 n ((ls n.Kids).length : Int) 0) _ hF _ _ ⟨rfl, rfl, rfl, trivial⟩ hs
             · refine rn 2 rfl ?_
               refine ci hF rfl (fun c_13 hF => ?_) (fun c_13 hF => ?_)
               · refine rn 0 rfl ?_
                 refine ct rfl c_13 ?_
                 refine rj 0 2 rfl ?_
                 exact w69 (.p1 n ((ls n.Kids).length : Int) 0) _ hF _ _ ⟨rfl, rfl, rfl, trivial⟩ hs
               · refine rn 2 rfl ?_
                 refine ci hF rfl (fun c_14 hF => ?_) (fun c_14 hF => ?_)
                 · refine rj 0 2 rfl ?_
                   exact w69 (.p1 n ((ls n.Kids).length : Int) 0) _ hF _ _ ⟨rfl, rfl, rfl, trivial⟩ hs
                 · refine rn 1 rfl ?_
                   cases hF
                   exact rD (rlt rl0) rfl
def C71_34 : ACode := .ops [q 41 (.mv 5), q 42 (.mv 9), q 43 (.max [41, 42]), q 5 (.mv 43)]
def C71_24 : ACode := .s (.ops [q 22 (.iaddrL 9 18 20), q 23 (.loadN 9 22), q 7 (.alloc [(.int .u8 0), (.int .u64 0), (.int .u64 0), (.int .u64 0), (.int .u64 0), (.int .i64 0), (.int .i64 0), (.int .i64 0), .nils]), q0 (.store 9 7 23)]) (.s (.ops [q 25 (.loadN 9 7), qc 26 71 [25], q 24 (.mv 26), q 27 (.extract 24 0), q 28 (.extract 24 1), q 8 (.mv 27), q 9 (.mv 28)]) (.s (.s (.ops [q 29 (.mv 8), q 30 (.binI .gtr 29 (ki 0)), q 31 (.mv 30), (q 32 (.mv 4)).y 31, (q 33 (.binI .eql 32 (ki 0))).y 31, (q 34 (.mv 33)).y 31, (q 35 (.mv 8)).n 34, (q 36 (.mv 4)).n 34, (q 37 (.binI .lss 35 36)).n 34, (q 38 (.pick 34 (.c (.bool true)) 37)).y 31, q 39 (.pick 31 38 (.c (.bool false)))]) (.cond 39 (.ops [q 40 (.mv 8), q 4 (.mv 40)]) .skip)) C71_34))
def C71_35 : ACode := .ops [q 44 (.binI .add 20 (ki 1)), q 20 (.mv 44)]
def C71_16 : ACode := .s (.ops [q 21 (.binI .lss 20 19)]) (.s (.cond 21 .skip (.exit 0)) (.s (.block 1 C71_24) C71_35))
def C71_36 : ACode := .s (.ops [q 45 (.mv 4), q 46 (.mv 5), q 2 (.mv 45), q 3 (.mv 46)]) .ret
def C71_11 : ACode := .s (.s (.ops [q 17 (.faddr 8 1), q 18 (.load1 17), q 19 (.len 18), q 20 (.mv (ki 0))]) (.block 0 (.loop C71_16))) C71_36
def C71_1 : ACode := .s (.ops [q 1 (.boxD 9 0), q 2 (.mv (ki 0)), q 3 (.mv (ki 0))]) (.s (.ops [q 4 (.mv (ki 0)), q 5 (.mv (ki 0))]) (.s (.s (.ops [q 10 (.faddr 0 1), q 11 (.load1 10), q 12 (.binI .eql 11 (ku 6))]) (.cond 12 (.draw [] 0 0 [q 13 (.faddr 7 1), q 14 (.load1 13), q 15 (.faddr 7 1), q 16 (.load1 15), q 4 (.mv 14), q 5 (.mv 16)] []) .skip)) C71_11))
def R71 : List RA := [(.tmp 2), (.tmp 3)]
theorem k71 : compF Tryd.prog (muL [1]) 71 = some ⟨47, C71_1, R71⟩ := by kernel_rfl
noncomputable abbrev X71 (r : Int × Int) : Cx := cD Tryd.prog gE 47 R71 (AV.tup [AV.int .i64 r.1, AV.int .i64 r.2]) [1]
inductive St71 where
 | e (n : T27)
 | p1 (n : T27) (low : Int) (high : Int)
 | p2 (low : Int) (high : Int) (t18_ : Sl T27) (t19_ : Int) (t20_ : Int)
 | p3 (low : Int) (high : Int) (b : Int) (t18_ : Sl T27) (t19_ : Int) (t20_ : Int)
noncomputable def G71 : St71 → Option (Int × Int) | .e n => (if (n.Kind == 6) = true then (G71 (.p1 n n.Group n.Group)) else (G71 (.p1 n 0 0))) | .p1 n low high => (G71 (.p2 low high n.Kids ((ls n.Kids).length : Int) 0)) | .p2 low high t18_ t19_ t20_ => (if (decide (t20_ < t19_)) = true then (ix (ls t18_) t20_ >>= fun v_3 => (G71 (.e v_3) >>= fun r_6 => (if (decide (r_6.1 > 0)) = true then (if (low == 0) = true then (G71 (.p3 r_6.1 high r_6.2 t18_ t19_ t20_)) else (if (decide (r_6.1 < low)) = true then (G71 (.p3 r_6.1 high r_6.2 t18_ t19_ t20_)) else (G71 (.p3 low high r_6.2 t18_ t19_ t20_)))) else (G71 (.p3 low high r_6.2 t18_ t19_ t20_))))) else (some (low, high))) | .p3 low high b t18_ t19_ t20_ => (G71 (.p2 low (if b > high then b else high) t18_ t19_ (IntKind.wrap .i64 (t20_ + 1)))) partial_fixpoint
def M71 (x : St71) (r : Int × Int) : Prop := match x with | .e n => DFun Tryd.prog gE 71 [v27 n] (AV.tup [AV.int .i64 r.1, AV.int .i64 r.2]) | .p1 n low high => ∀ (tm : Fr) (st : Store), Frm tm [(1, .dptr (c27 n)), (4, AV.int .i64 low), (5, AV.int .i64 high)] → SH st [] → W (X71 r) [.code C71_11] tm st | .p2 low high t18_ t19_ t20_ => ∀ (tm : Fr) (st : Store), Frm tm [(4, AV.int .i64 low), (5, AV.int .i64 high), (18, slV 9 v27 t18_), (19, AV.int .i64 t19_), (20, AV.int .i64 t20_)] → SH st [] → W (X71 r) [.lp C71_16, .blk 0, .code C71_36] tm st | .p3 low high b t18_ t19_ t20_ => ∀ (tm : Fr) (st : Store), Frm tm [(4, AV.int .i64 low), (5, AV.int .i64 high), (9, AV.int .i64 b), (18, slV 9 v27 t18_), (19, AV.int .i64 t19_), (20, AV.int .i64 t20_)] → SH st [] → W (X71 r) [.code C71_34, .blk 1, .code C71_35, .lp C71_16, .blk 0, .code C71_36] tm st
theorem w71 : ∀ (x : St71) (r : Int × Int), G71 x = some r → M71 x r := by
 refine G71.partial_correctness (M71) ?_
 intro g ih x r hF
 cases x with
 | e n =>
  dsimp only at hF
  refine bD k71 rfl ?_
  have hs : SH [] [] := SH.nil
  generalize ([] : Store) = st at hs ⊢
  refine rn 0 rfl ?_
  refine W.o (e_boxD (cs := c27 n) rfl (by rw [c27_len]; rfl) (c27_one _)) ?_
  refine rn 4 rfl ?_
  refine W.o (e_faddrD rfl) ?_
  refine W.o (e_load1D rfl (DP.fld (DP.refl _) (lrg27_Kind n))) ?_
  refine rn 1 rfl ?_
  refine ci hF rfl (fun c_1 hF => ?_) (fun c_1 hF => ?_)
  · have h0 := hs
    refine dr0 ?_
    refine de rfl (e_faddrD rfl) ?_
    refine de rfl (e_load1D rfl (DP.fld (DP.refl _) (lrg27_Group n))) ?_
    refine de rfl (e_faddrD rfl) ?_
    refine de rfl (e_load1D rfl (DP.fld (DP.refl _) (lrg27_Group n))) ?_
    refine dn 2 rfl ?_
    refine dz ?_
    refine rj 0 1 rfl ?_
    exact ih (.p1 n n.Group n.Group) _ hF _ _ ⟨rfl, rfl, rfl, trivial⟩ hs
  · refine rj 0 1 rfl ?_
    exact ih (.p1 n 0 0) _ hF _ _ ⟨rfl, rfl, rfl, trivial⟩ hs
 | p1 n low high =>
  dsimp only at hF
  intro tm st hf hs
  refine en hf ?_
  refine rn 0 rfl ?_
  refine W.o (e_faddrD rfl) ?_
  refine W.o (e_load1D rfl (DP.fld (DP.refl _) (lrg27_Kids n))) ?_
  refine W.o (e_len (rd_V rfl)) ?_
  refine rn 1 rfl ?_
  exact ih (.p2 low high n.Kids ((ls n.Kids).length : Int) 0) _ hF _ _ ⟨rfl, rfl, rfl, rfl, rfl, trivial⟩ hs
 | p2 low high t18_ t19_ t20_ =>
  dsimp only at hF
  intro tm st hf hs
  refine en hf ?_
  refine lp ?_
  refine rn 1 rfl ?_
  refine ci hF rfl (fun c_2 hF => ?_) (fun c_2 hF => ?_)
  · obtain ⟨v_3, g_4, hF⟩ := bind_some hF
    refine rn 0 rfl ?_
    refine W.o (e_iaddrL (rd_V rfl) rfl g_4) ?_
    refine W.o (e_loadND rfl (DP.refl _) (c27_len _)) ?_
    refine al hs (cs := c27 ({ Kind := 0, Set := (Arr.rep 4 (0 : Int)), Min := 0, Max := 0, Group := 0, Kids := none } : T27)) rfl fun st b_5 hs => ?_
    refine sl hs 0 rfl rfl (LR.whole _ _) (c27_len _) rfl (c27_len _) (c27_one _) rfl fun st hs => ?_
    refine rn 0 rfl ?_
    refine W.o (e_loadN rfl (hs.g 0 rfl) (LR.whole _ _) (c27_len _)) ?_
    obtain ⟨r_6, g_7, hF⟩ := bind_some hF
    refine df (ih (.e v_3) _ g_7) rfl ?_
    refine rn 8 rfl ?_
    refine bi hF (fun c_8 hF => ?_) (fun c_8 hF => ?_)
    · refine wfx 31 rfl c_8 ?_
      refine rn 3 rfl ?_
      refine bi hF (fun c_9 hF => ?_) (fun c_9 hF => ?_)
      · refine wfx 34 rfl c_9 ?_
        refine rn 5 rfl ?_
        refine ct rfl rfl ?_
        refine rj 2 1 rfl ?_
        exact ih (.p3 r_6.1 high r_6.2 t18_ t19_ t20_) _ hF _ _ ⟨rfl, rfl, rfl, rfl, rfl, rfl, trivial⟩ (hs.p 1 [] rfl)
      · refine wfx 34 rfl c_9 ?_
        refine rn 5 rfl ?_
        refine ci hF rfl (fun c_10 hF => ?_) (fun c_10 hF => ?_)
        · refine rj 2 1 rfl ?_
          exact ih (.p3 r_6.1 high r_6.2 t18_ t19_ t20_) _ hF _ _ ⟨rfl, rfl, rfl, rfl, rfl, rfl, trivial⟩ (hs.p 1 [] rfl)
        · refine rj 0 1 rfl ?_
          exact ih (.p3 low high r_6.2 t18_ t19_ t20_) _ hF _ _ ⟨rfl, rfl, rfl, rfl, rfl, rfl, trivial⟩ (hs.p 1 [] rfl)
    · refine wfx 31 rfl c_8 ?_
      refine rn 8 rfl ?_
      refine cf rfl rfl ?_
      refine rj 0 1 rfl ?_
      exact ih (.p3 low high r_6.2 t18_ t19_ t20_) _ hF _ _ ⟨rfl, rfl, rfl, rfl, rfl, rfl, trivial⟩ (hs.p 1 [] rfl)
  · refine rn 4 rfl ?_
    cases hF
    exact rD (rlt (rlt rl0)) rfl
 | p3 low high b t18_ t19_ t20_ =>
  dsimp only at hF
  intro tm st hf hs
  refine en hf ?_
  refine rn 6 rfl ?_
  exact ih (.p2 low (if b > high then b else high) t18_ t19_ (IntKind.wrap .i64 (t20_ + 1))) _ hF _ _ ⟨rfl, rfl, rfl, rfl, rfl, trivial⟩ hs
noncomputable def F71 (n : T27) : Option (Int × Int) := G71 (.e n)
theorem d71 (n : T27) (r : Int × Int) (hF : F71 n = some r) : DFun Tryd.prog gE 71 [v27 n] (AV.tup [AV.int .i64 r.1, AV.int .i64 r.2]) := by
 exact w71 (.e n) r hF
def C53_1 : ACode := .s (.ops [q 1 (.boxD 1 0), q 2 (.mv (.c .nilfn))]) (.s (.ops [q 3 (.mkfn 81 [1]), q 2 (.mv 3)]) .ret)
def R53 : List RA := [(.tmp 2)]
theorem k53 : compF Tryd.prog (muL [1]) 53 = some ⟨4, C53_1, R53⟩ := by kernel_rfl
noncomputable abbrev X53 (r : T27) : Cx := cD Tryd.prog gE 4 R53 (.fn 81 [.dptr [.dptr (c27 r)]]) [1]
noncomputable def F53 (n : T27) : Option T27 := (some n)
theorem d53 (n : T27) (r : T27) (hF : F53 n = some r) : DFun Tryd.prog gE 53 [.dptr (c27 n)] (.fn 81 [.dptr [.dptr (c27 r)]]) := by
 unfold F53 at hF
 refine bD k53 rfl ?_
 have hs : SH [] [] := SH.nil
 generalize ([] : Store) = st at hs ⊢
 refine rn 0 rfl ?_
 refine W.o (e_boxD (cs := [.dptr (c27 n)]) rfl rfl rfl) ?_
 refine rn 3 rfl ?_
 cases hF
 exact rD (rlt rl0) rfl
def C82_26 : ACode := .s (.draw [] 0 0 [q 18 (.load1 2), q 19 (.mv 0), q 20 (.nilck 19), q 21 (.faddr 8 20), q 22 (.load1 21), q 23 (.mv 5), q 24 (.iaddrL 9 22 23)] [qf 25 18 [24], q 26 (.un .not 25)]) (.cond 26 (.s (.ops [q 4 (.mv (.c (.bool false)))]) .ret) .skip)
def C82_16 : ACode := .s (.ops [q 16 (.binI .lss 15 14)]) (.s (.cond 16 .skip (.exit 0)) (.s (.block 1 (.s (.ops [q 17 (.mv 15), q 5 (.mv 17)]) C82_26)) (.ops [q 27 (.binI .add 15 (ki 1)), q 15 (.mv 27)])))
def C82_34 : ACode := .s (.ops [q 4 (.mv (.c (.bool true)))]) .ret
def C82_1 : ACode := .s (.ops [q 4 (.mv (.c (.bool false)))]) (.s (.s (.ops [q 6 (.load1 1), q 7 (.mv 0), qf 8 6 [7], q 9 (.un .not 8)]) (.cond 9 (.s (.ops [q 4 (.mv (.c (.bool false)))]) .ret) .skip)) (.s (.s (.ops [q 10 (.mv 0), q 11 (.nilck 10), q 12 (.faddr 8 11), q 13 (.load1 12), q 14 (.len 13), q 15 (.mv (ki 0))]) (.block 0 (.loop C82_16))) C82_34))
def R82 : List RA := [(.tmp 4)]
theorem k82 : compF Tryd.prog (muL []) 82 = some ⟨28, C82_1, R82⟩ := by kernel_rfl
noncomputable abbrev X82 (K : AV → Store → Prop) : Cx := cK Tryd.prog gE 28 R82 (isK K)
inductive St82 (σ : Type) where
 | e (n : T27) (s_ : σ)
 | p1 (n : T27) (t14_ : Int) (t15_ : Int) (s_ : σ)
noncomputable def G82 {σ : Type} (Y : T27 → σ → Option (Bool × σ)) : St82 σ → Option (Bool × σ) | .e n s_ => (Y n s_ >>= fun r_1 => (if (!r_1.1) = true then (some (false, r_1.2)) else (G82 Y (.p1 n ((ls n.Kids).length : Int) 0 r_1.2)))) | .p1 n t14_ t15_ s_ => (if (decide (t15_ < t14_)) = true then (ix (ls n.Kids) t15_ >>= fun v_5 => (G82 Y (.e v_5 s_) >>= fun r_7 => (if (!r_7.1) = true then (some (false, r_7.2)) else (G82 Y (.p1 n t14_ (IntKind.wrap .i64 (t15_ + 1)) r_7.2))))) else (some (true, s_))) partial_fixpoint
def M82 {σ : Type} (H : σ → Asn) (iY0 : Nat) (x : St82 σ) (r : Bool × σ) : Prop := match x with | .e n s_ => ∀ (K : AV → Store → Prop) (Ls : List Asn) (iW1 : Nat), (∀ st, SH st (H r.2 :: pt iW1 (.cells [.fn 82 [.dptr [.yld iY0], .ptr iW1 0]]) :: Ls) → K (AV.bool r.1) st) → ∀ (st : Store), SH st (H s_ :: pt iW1 (.cells [.fn 82 [.dptr [.yld iY0], .ptr iW1 0]]) :: Ls) → XCall Tryd.prog gE 82 [.dptr (c27 n), .dptr [.yld iY0], .ptr iW1 0] st K | .p1 n t14_ t15_ s_ => ∀ (K : AV → Store → Prop) (Ls : List Asn) (iW1 : Nat), (∀ st, SH st (H r.2 :: pt iW1 (.cells [.fn 82 [.dptr [.yld iY0], .ptr iW1 0]]) :: Ls) → K (AV.bool r.1) st) → ∀ (tm : Fr) (st : Store), Frm tm [(0, .dptr (c27 n)), (2, .ptr iW1 0), (14, AV.int .i64 t14_), (15, AV.int .i64 t15_)] → SH st (H s_ :: pt iW1 (.cells [.fn 82 [.dptr [.yld iY0], .ptr iW1 0]]) :: Ls) → W (X82 K) [.lp C82_16, .blk 0, .code C82_34] tm st
theorem w82 {σ : Type} {H : σ → Asn} {Y : T27 → σ → Option (Bool × σ)} (iY0 : Nat) (hY : ∀ (x : T27) (s : σ) (r : Bool × σ), Y x s = some r → ∀ (K : AV → Store → Prop) (L : List Asn) (st : Store), SH st (H s :: L) → (∀ st, SH st (H r.2 :: L) → K (.bool r.1) st) → XYield Tryd.prog gE iY0 [.dptr (c27 x)] st K) : ∀ (x : St82 σ) (r : Bool × σ), G82 Y x = some r → M82 H iY0 x r := by
 refine G82.partial_correctness Y (M82 H iY0) ?_
 intro g ih x r hF
 cases x with
 | e n s_ =>
  dsimp only at hF
  intro K Ls iW1 hK  st hs
  refine bS k82 rfl ?_
  refine rn 1 rfl ?_
  refine W.o (l1D rfl rfl) ?_
  obtain ⟨r_1, g_2, hF⟩ := bind_some hF
  refine rn 1 rfl ?_
  refine cy rfl rfl (hY _ _ _ g_2 _ _ _ hs fun st hs => ?_)
  refine rn 1 rfl ?_
  refine ci hF rfl (fun c_3 hF => ?_) (fun c_3 hF => ?_)
  · refine rn 1 rfl ?_
    cases hF
    exact rS (rlt rl0) (hK _ hs) rfl
  · refine rn 1 rfl ?_
    refine W.o (e_nilckD rfl) ?_
    refine W.o (e_faddrD rfl) ?_
    refine W.o (e_load1D rfl (DP.fld (DP.refl _) (lrg27_Kids n))) ?_
    refine W.o (e_len (rd_V rfl)) ?_
    refine rn 1 rfl ?_
    exact ih (.p1 n ((ls n.Kids).length : Int) 0 r_1.2) _ hF K Ls iW1 hK _ _ ⟨rfl, rfl, rfl, rfl, trivial⟩ hs
 | p1 n t14_ t15_ s_ =>
  dsimp only at hF
  intro K Ls iW1 hK tm st hf hs
  refine en hf ?_
  refine lp ?_
  refine rn 1 rfl ?_
  refine ci hF rfl (fun c_4 hF => ?_) (fun c_4 hF => ?_)
  · refine rn 2 rfl ?_
    have h0 := hs
    refine dr0 ?_
    refine de rfl (l1 rfl (h0.g 1 rfl) rfl) ?_
    refine dn 1 rfl ?_
    refine de rfl (e_nilckD rfl) ?_
    refine de rfl (e_faddrD rfl) ?_
    refine de rfl (e_load1D rfl (DP.fld (DP.refl _) (lrg27_Kids n))) ?_
    obtain ⟨v_5, g_6, hF⟩ := bind_some hF
    refine dn 1 rfl ?_
    refine de rfl (e_iaddrL (rd_V rfl) rfl g_6) ?_
    refine dz ?_
    obtain ⟨r_7, g_8, hF⟩ := bind_some hF
    refine cv rfl (by kernel_rfl) (ale rfl) (ih (.e v_5 s_) _ g_8 _ _ iW1 (fun st hs => ?_) _ hs)
    refine rn 1 rfl ?_
    refine ci hF rfl (fun c_9 hF => ?_) (fun c_9 hF => ?_)
    · refine rn 1 rfl ?_
      cases hF
      exact rS (rlt rl0) (hK _ hs) rfl
    · refine rn 2 rfl ?_
      exact ih (.p1 n t14_ (IntKind.wrap .i64 (t15_ + 1)) r_7.2) _ hF K Ls iW1 hK _ _ ⟨rfl, rfl, rfl, rfl, trivial⟩ hs
  · refine rn 1 rfl ?_
    cases hF
    exact rS (rlt rl0) (hK _ hs) rfl
noncomputable def F82 {σ : Type} (Y : T27 → σ → Option (Bool × σ)) (n : T27) (s_ : σ) : Option (Bool × σ) := G82 Y (.e n s_)
theorem d82 {σ : Type} {H : σ → Asn} {Y : T27 → σ → Option (Bool × σ)} (iY0 : Nat) (hY : ∀ (x : T27) (s : σ) (r : Bool × σ), Y x s = some r → ∀ (K : AV → Store → Prop) (L : List Asn) (st : Store), SH st (H s :: L) → (∀ st, SH st (H r.2 :: L) → K (.bool r.1) st) → XYield Tryd.prog gE iY0 [.dptr (c27 x)] st K) (n : T27) (s_ : σ) (r : Bool × σ) (hF : F82 Y n s_ = some r) : ∀ (K : AV → Store → Prop) (Ls : List Asn) (iW1 : Nat), (∀ st, SH st (H r.2 :: pt iW1 (.cells [.fn 82 [.dptr [.yld iY0], .ptr iW1 0]]) :: Ls) → K (AV.bool r.1) st) → ∀ (st : Store), SH st (H s_ :: pt iW1 (.cells [.fn 82 [.dptr [.yld iY0], .ptr iW1 0]]) :: Ls) → XCall Tryd.prog gE 82 [.dptr (c27 n), .dptr [.yld iY0], .ptr iW1 0] st K := by
 exact (w82 iY0 hY) (.e n s_) r hF
def C81_1 : ACode := .s (.ops [q 2 (.boxD 1 0)]) (.s (.ops [q 3 (.alloc [.nilfn])]) (.s (.ops [q 4 (.mkfn 82 [2, 3]), q0 (.store 1 3 4)]) (.ops [q 5 (.load1 3), q 6 (.load1 1), qf 7 5 [6]])))
def R81 : List RA := []
theorem k81 : compF Tryd.prog (muL [2]) 81 = some ⟨8, C81_1, R81⟩ := by kernel_rfl
noncomputable abbrev X81 (K : AV → Store → Prop) : Cx := cK Tryd.prog gE 8 R81 (isK K) [2]
noncomputable def F81 {σ : Type} (Y : T27 → σ → Option (Bool × σ)) (d0_ : T27) (s_ : σ) : Option σ := (F82 Y d0_ s_ >>= fun r_2 => (some r_2.2))
theorem d81 {σ : Type} {H : σ → Asn} {Y : T27 → σ → Option (Bool × σ)} (iY0 : Nat) (hY : ∀ (x : T27) (s : σ) (r : Bool × σ), Y x s = some r → ∀ (K : AV → Store → Prop) (L : List Asn) (st : Store), SH st (H s :: L) → (∀ st, SH st (H r.2 :: L) → K (.bool r.1) st) → XYield Tryd.prog gE iY0 [.dptr (c27 x)] st K) (d0_ : T27) (s_ : σ) (r : σ) (hF : F81 Y d0_ s_ = some r) : ∀ (K : AV → Store → Prop) (Ls : List Asn), (∀ st, SH st (H r :: Ls) → K (AV.tup []) st) → ∀ (st : Store), SH st (H s_ :: Ls) → XCall Tryd.prog gE 81 [.yld iY0, .dptr [.dptr (c27 d0_)]] st K := by
 unfold F81 at hF
 intro K Ls hK  st hs
 refine bS k81 rfl ?_
 refine rn 0 rfl ?_
 refine W.o (e_boxD (cs := [.yld iY0]) rfl rfl rfl) ?_
 refine rn 0 rfl ?_
 refine al hs (cs := [.nilfn]) rfl fun st b_1 hs => ?_
 refine rn 1 rfl ?_
 refine sr hs 0 rfl rfl rfl (cs' := [.fn 82 [.dptr [.yld iY0], .ptr b_1 0]]) rfl rfl fun st hs => ?_
 refine rn 0 rfl ?_
 refine W.o (l1 rfl (hs.g 0 rfl) rfl) ?_
 refine W.o (l1D rfl rfl) ?_
 obtain ⟨r_2, g_3, hF⟩ := bind_some hF
 refine cv rfl (by kernel_rfl) (ale rfl) (d82 iY0 hY d0_ s_ _ g_3 _ _ b_1 (fun st hs => ?_) _ (hs.p 2 [1, 0] rfl))
 refine rn 0 rfl ?_
 cases hF
 exact eS rl0 (hK _ (hs.p 2 [0] rfl)) rfl
def C36_10 : ACode := .ops [q 4 (.mv 6)]
def C36_11 : ACode := .block 1 (.s (.ops [q 7 (.mv 4), q 8 (.nilck 7), q 9 (.faddr 0 8), q 10 (.load1 9), q 11 (.binI .eql 10 (ku 6))]) (.cond 11 (.ops [q 12 (.load1 3), q 13 (.binI .add 12 (ki 1)), q0 (.store 1 3 13)]) .skip))
def C36_9 : ACode := .range 5 [6] C36_10 C36_11
def C36_17 : ACode := .s (.ops [q 14 (.load1 3), q 2 (.mv 14)]) .ret
def C36_1 : ACode := .s (.ops [q 1 (.boxD 9 0), q 2 (.mv (ki 0))]) (.s (.ops [q 3 (.alloc [(.int .i64 0)]), q0 (.store 1 3 (ki 0))]) (.s (.s (.ops [qc 5 53 [1]]) (.block 0 C36_9)) C36_17))
def R36 : List RA := [(.tmp 2)]
theorem k36 : compF Tryd.prog (muL [1]) 36 = some ⟨15, C36_1, R36⟩ := by kernel_rfl
noncomputable abbrev X36 (r : Int) : Cx := cD Tryd.prog gE 15 R36 (AV.int .i64 r) [1]
noncomputable def B36_1 (t2_ : Int) (t5_ : T27) (x : T27) (zz : Int × Nat) : Option (Bool × (Int × Nat)) := if zz.2 = 0 then (if (x.Kind == 6) = true then (some (true, (IntKind.wrap .i64 (zz.1 + 1), 0))) else (some (true, (zz.1, 0))))
else none
theorem b36_1 (t2_ : Int) (t5_ : T27) (x : T27) (zz : Int × Nat) (r : Bool × (Int × Nat)) (hF : B36_1 t2_ t5_ x zz = some r) (K : AV → Store → Prop) (Ls : List Asn) (iL : Nat) (ca cb : Code) (tm0 : Fr) (io0 : Nat) (q1 : compC Tryd.prog 15 (rnd (muL [1])) ca = some C36_10) (q2 : compC Tryd.prog 15 (rnd (muL [1])) cb = some C36_11) (hf : Frm tm0 [(2, AV.int .i64 t2_), (3, .ptr io0 0), (5, .fn 81 [.dptr [.dptr (c27 t5_)]])]) (hK : ∀ st, SH st (bun [pt iL (.loop 15 [6] ca cb tm0 (lsW r.2.2) (ljW [] r.2.2)), pt io0 (.cells (cI .i64 r.2.1))] :: Ls) → K (.bool r.1) st) (st : Store) (hs : SH st (bun [pt iL (.loop 15 [6] ca cb tm0 (lsW zz.2) (ljW [] zz.2)), pt io0 (.cells (cI .i64 zz.1))] :: Ls)) : XYield Tryd.prog gE iL [.dptr (c27 x)] st K := by
 unfold B36_1 at hF
 obtain ⟨c_, hF⟩ := grd_some hF
 replace hs : SH st ([pt iL (.loop 15 [6] ca cb tm0 (lsW zz.2) (ljW [] zz.2)), pt io0 (.cells (cI .i64 zz.1))] ++ Ls) := SH.unbun hs
 rw [c_] at hs
 replace hs : SH st (pt iL (.loop 15 [6] ca cb tm0 .ready none) :: pt io0 (.cells (cI .i64 zz.1)) :: Ls) := hs
 replace hK : (∀ st, SH st (pt iL (.loop 15 [6] ca cb tm0 (lsW r.2.2) (ljW [] r.2.2)) :: pt io0 (.cells (cI .i64 r.2.1)) :: Ls) → K (.bool r.1) st) := fun st hs => hK st (SH.bun hs)
 refine bR' (mu := [1]) q1 q2 hs rfl rfl (fun _ _ => trivial) ?_
 rw [putL1 hf]
 refine rn 1 rfl ?_
 refine rdW hs fun st hs => ?_
 refine rn 1 rfl ?_
 refine W.o (e_nilckD rfl) ?_
 refine W.o (e_faddrD rfl) ?_
 refine W.o (e_load1D rfl (DP.fld (DP.refl _) (lrg27_Kind x))) ?_
 refine rn 1 rfl ?_
 refine ci hF rfl (fun c_1 hF => ?_) (fun c_1 hF => ?_)
 · refine rn 0 rfl ?_
   refine W.o (l1 rfl (hs.g 1 rfl) rfl) ?_
   refine rn 1 rfl ?_
   refine sr hs 1 rfl rfl rfl (cs' := cI .i64 (IntKind.wrap .i64 (zz.1 + 1))) rfl rfl fun st hs => ?_
   refine rn 0 rfl ?_
   cases hF
   exact rdN hs (fun st hs => hK st hs)
 · refine rn 0 rfl ?_
   cases hF
   exact rdN hs (fun st hs => hK st hs)
inductive St36 where
 | p1 (t2_ : Int) (t5_ : T27) (k : Int)
noncomputable def G36 : St36 → Option Int | .p1 t2_ t5_ k => (F81 (B36_1 t2_ t5_) t5_ (k, 0) >>= fun r_4 => (if r_4.2 = 0 then (some r_4.1) else none))
def M36 (x : St36) (r : Int) : Prop := match x with | .p1 t2_ t5_ k => ∀ (tm : Fr) (st : Store) (io0 : Nat), Frm tm [(2, AV.int .i64 t2_), (3, .ptr io0 0), (5, .fn 81 [.dptr [.dptr (c27 t5_)]])] → SH st [pt io0 (.cells (cI .i64 k))] → W (X36 r) [.code C36_9, .blk 0, .code C36_17] tm st
theorem w36 : ∀ (x : St36) (r : Int), G36 x = some r → M36 x r := by
 intro x r hF
 cases x with
 | p1 t2_ t5_ k =>
  dsimp only [G36] at hF
  intro tm st io0 hf hs
  obtain ⟨r_4, g_5, hF⟩ := bind_some hF
  refine rg (N := 15) (fr := []) rfl hs hf.2.2.1 (by kernel_rfl) fun ca cb st iL q1 q2 hs => ?_
  refine d81 (σ := Int × Nat) (H := fun zz => bun [pt iL (.loop 15 [6] ca cb tm (lsW zz.2) (ljW [] zz.2)), pt io0 (.cells (cI .i64 zz.1))]) (Y := B36_1 t2_ t5_) iL (fun x zz r hB K L st hs hK => b36_1 t2_ t5_ x zz r hB K L iL ca cb tm io0 q1 q2 hf hK st hs) t5_ (k, 0) _ g_5 _ _ (fun st hs => ?_) _ (SH.bun hs)
  replace hs : SH st ([pt iL (.loop 15 [6] ca cb tm (lsW r_4.2) (ljW [] r_4.2)), pt io0 (.cells (cI .i64 r_4.1))] ++ _) := SH.unbun hs
  refine ni hF (fun c_ hF => ?_) (fun c_ hF => ?_)
  · rw [c_] at hs
    refine rgN hs (by decide) fun st hs => ?_
    refine en hf ?_
    refine rn 0 rfl ?_
    refine W.o (l1 rfl (hs.g 0 rfl) rfl) ?_
    refine rn 1 rfl ?_
    cases hF
    exact rD (rlt rl0) rfl
  · cases hF
noncomputable def F36 (n : T27) : Option Int := (F53 n >>= fun r_2 => (G36 (.p1 0 r_2 0)))
theorem d36 (n : T27) (r : Int) (hF : F36 n = some r) : DFun Tryd.prog gE 36 [v27 n] (AV.int .i64 r) := by
 unfold F36 at hF
 refine bD k36 rfl ?_
 have hs : SH [] [] := SH.nil
 generalize ([] : Store) = st at hs ⊢
 refine rn 0 rfl ?_
 refine W.o (e_boxD (cs := c27 n) rfl (by rw [c27_len]; rfl) (c27_one _)) ?_
 refine rn 1 rfl ?_
 refine al hs (cs := cI .i64 0) rfl fun st b_1 hs => ?_
 refine sr hs 0 rfl rfl rfl (cs' := cI .i64 0) rfl rfl fun st hs => ?_
 obtain ⟨r_2, g_3, hF⟩ := bind_some hF
 refine rn 0 rfl ?_
 refine df (d53 n _ g_3) rfl ?_
 refine rj 0 2 rfl ?_
 exact w36 (.p1 0 r_2 0) _ hF _ _ b_1 ⟨rfl, rfl, rfl, trivial⟩ hs
def C70_1 : ACode := .ops [q 3 (.load1 1), q 4 (.mv 0), q 5 (.binI .add 3 4), q 6 (.min [5, (ki 16385)]), q0 (.store 1 1 6)]
def R70 : List RA := []
theorem k70 : compF Tryd.prog (muL []) 70 = some ⟨7, C70_1, R70⟩ := by kernel_rfl
noncomputable abbrev X70 (K : AV → Store → Prop) : Cx := cK Tryd.prog gE 7 R70 (isK K)
noncomputable def F70 (x_ : Int) (q0_ : Int) : Option Int := (some (if 16385 < (IntKind.wrap .i64 (q0_ + x_)) then 16385 else (IntKind.wrap .i64 (q0_ + x_))))
theorem d70 (x_ : Int) (q0_ : Int) (r : Int) (hF : F70 x_ q0_ = some r) : ∀ (K : AV → Store → Prop) (Ls : List Asn) (iQ0 : Nat), (∀ st, SH st (pt iQ0 (.cells (cI .i64 r)) :: Ls) → K (AV.tup []) st) → ∀ (st : Store), SH st (pt iQ0 (.cells (cI .i64 q0_)) :: Ls) → XCall Tryd.prog gE 70 [AV.int .i64 x_, .ptr iQ0 0] st K := by
 unfold F70 at hF
 intro K Ls iQ0 hK  st hs
 refine bS k70 rfl ?_
 refine rn 0 rfl ?_
 refine W.o (l1 rfl (hs.g 0 rfl) rfl) ?_
 refine rn 3 rfl ?_
 refine sr hs 0 rfl rfl rfl (cs' := cI .i64 (if 16385 < (IntKind.wrap .i64 (q0_ + x_)) then 16385 else (IntKind.wrap .i64 (q0_ + x_)))) rfl rfl fun st hs => ?_
 refine rn 0 rfl ?_
 cases hF
 exact eS rl0 (hK _ hs) rfl
def C51_20 : ACode := .s (.ops [q 19 (.binI .eql 12 (ku 4)), q 17 (.mv 19)]) (.cond 17 .skip (.ops [q 20 (.binI .eql 12 (ku 6)), q 17 (.mv 20)]))
def C51_31 : ACode := .s (.ops [q 25 (.binI .lss 24 23)]) (.s (.cond 25 .skip (.exit 1)) (.s (.block 2 (.s (.ops [q 26 (.iaddrL 9 22 24), q 27 (.loadN 9 26), q 6 (.alloc [(.int .u8 0), (.int .u64 0), (.int .u64 0), (.int .u64 0), (.int .u64 0), (.int .i64 0), (.int .i64 0), (.int .i64 0), .nils]), q0 (.store 9 6 27)]) (.ops [q 28 (.mv 4), q 29 (.loadN 9 6), qc 30 51 [29], qf 31 28 [30]]))) (.ops [q 32 (.binI .add 24 (ki 1)), q 24 (.mv 32)])))
def C51_27 : ACode := .s (.ops [q 21 (.faddr 8 1), q 22 (.load1 21), q 23 (.len 22), q 24 (.mv (ki 0))]) (.block 1 (.loop C51_31))
def C51_49 : ACode := .s (.ops [q 43 (.faddr 0 1), q 44 (.load1 43), q 45 (.binI .eql 44 (ku 6))]) (.cond 45 (.ops [q 46 (.mv 4), qf 47 46 [(ki 2)]]) .skip)
def C51_43 : ACode := .s (.s (.ops [q 33 (.faddr 0 1), q 34 (.load1 33), q 35 (.binI .eql 34 (ku 4))]) (.cond 35 (.ops [q 36 (.mv 4), q 37 (.faddr 8 1), q 38 (.load1 37), q 39 (.len 38), q 40 (.binI .sub 39 (ki 1)), q 41 (.binI .mul (ki 2) 40), qf 42 36 [41]]) .skip)) C51_49
def C51_26 : ACode := .s C51_27 C51_43
def C51_67 : ACode := .s (.ops [q 68 (.mv 4), q 69 (.faddr 5 1), q 70 (.load1 69), q 71 (.mv 7), q 72 (.binI .mul 70 71), qf 73 68 [72]]) (.s (.ops [q 74 (.faddr 6 1), q 75 (.load1 74), q 76 (.binI .eql 75 (ki (-1)))]) (.cond 76 (.ops [q 77 (.mv 4), q 78 (.mv 7), q 79 (.binI .add 78 (ki 4)), qf 80 77 [79]]) (.ops [q 81 (.mv 4), q 82 (.faddr 6 1), q 83 (.load1 82), q 84 (.faddr 5 1), q 85 (.load1 84), q 86 (.binI .sub 83 85), q 87 (.mv 7), q 88 (.binI .add 87 (ki 3)), q 89 (.binI .mul 86 88), qf 90 81 [89]])))
def C51_56 : ACode := .cond 48 (.s (.ops [q 50 (.faddr 8 1), q 51 (.load1 50), q 52 (.iaddrL 9 51 (ki 0)), q 53 (.loadN 9 52), qc 54 51 [53], q 7 (.mv 54)]) (.s (.s (.ops [q 56 (.faddr 8 1), q 57 (.load1 56), q 58 (.iaddrL 9 57 (ki 0)), q 59 (.loadN 9 58), qc 60 71 [59], q 55 (.mv 60), q 61 (.extract 55 0), q 62 (.extract 55 1), q 8 (.mv 61), q 9 (.mv 62)]) (.s (.ops [q 63 (.mv 8), q 64 (.binI .gtr 63 (ki 0))]) (.cond 64 (.ops [q 65 (.mv 7), q 66 (.binI .add 65 (ki 1)), q 67 (.min [66, (ki 16385)]), q 7 (.mv 67)]) .skip))) C51_67)) (.ops [q 13 (.mv 4), qf 14 13 [(ki 1)]])
def C51_75 : ACode := .s (.ops [q 91 (.load1 3), q 2 (.mv 91)]) .ret
def C51_1 : ACode := .s (.ops [q 1 (.boxD 9 0), q 2 (.mv (ki 0))]) (.s (.ops [q 3 (.alloc [(.int .i64 0)]), q0 (.store 1 3 (ki 0))]) (.s (.ops [q 10 (.mkfn 70 [3]), q 4 (.mv 10)]) (.s (.s (.ops [q 11 (.faddr 0 1), q 12 (.load1 11)]) (.block 0 (.s (.ops [q 16 (.binI .eql 12 (ku 1)), q 15 (.mv 16)]) (.cond 15 .skip (.s (.s (.ops [q 18 (.binI .eql 12 (ku 3)), q 17 (.mv 18)]) (.cond 17 .skip C51_20)) (.cond 17 C51_26 (.s (.ops [q 49 (.binI .eql 12 (ku 5)), q 48 (.mv 49)]) C51_56))))))) C51_75)))
def R51 : List RA := [(.tmp 2)]
theorem k51 : compF Tryd.prog (muL [1]) 51 = some ⟨92, C51_1, R51⟩ := by kernel_rfl
noncomputable abbrev X51 (r : Int) : Cx := cD Tryd.prog gE 92 R51 (AV.int .i64 r) [1]
inductive St51 where
 | e (n : T27)
 | p1 (n : T27) (sum : Int)
 | p2 (n : T27) (round : Int) (sum : Int)
 | p3 (n : T27) (t22_ : Sl T27) (t23_ : Int) (t24_ : Int) (sum : Int)
 | p4 (n : T27) (sum : Int)
noncomputable def G51 : St51 → Option Int | .e n => (if (n.Kind == 1) = true then (some 0) else (if (n.Kind == 3) = true then (G51 (.p1 n 0)) else (if (n.Kind == 4) = true then (G51 (.p1 n 0)) else (if (n.Kind == 6) = true then (G51 (.p1 n 0)) else (if (n.Kind == 5) = true then (ix (ls n.Kids) 0 >>= fun v_7 => (G51 (.e v_7) >>= fun r_9 => (ix (ls n.Kids) 0 >>= fun v_11 => (F71 v_11 >>= fun r_13 => (if (decide (r_13.1 > 0)) = true then (G51 (.p2 n (if 16385 < (IntKind.wrap .i64 (r_9 + 1)) then 16385 else (IntKind.wrap .i64 (r_9 + 1))) 0)) else (G51 (.p2 n r_9 0))))))) else (F70 1 0 >>= fun r_16 => (some r_16))))))) | .p1 n sum => (G51 (.p3 n n.Kids ((ls n.Kids).length : Int) 0 sum)) | .p2 n round sum => (F70 (IntKind.wrap .i64 (n.Min * round)) sum >>= fun r_18 => (if (n.Max == (-1)) = true then (F70 (IntKind.wrap .i64 (round + 4)) r_18 >>= fun r_21 => (some r_21)) else (F70 (IntKind.wrap .i64 ((IntKind.wrap .i64 (n.Max - n.Min)) * (IntKind.wrap .i64 (round + 3)))) r_18 >>= fun r_23 => (some r_23)))) | .p3 n t22_ t23_ t24_ sum => (if (decide (t24_ < t23_)) = true then (ix (ls t22_) t24_ >>= fun v_26 => (G51 (.e v_26) >>= fun r_29 => (F70 r_29 sum >>= fun r_31 => (G51 (.p3 n t22_ t23_ (IntKind.wrap .i64 (t24_ + 1)) r_31))))) else (if (n.Kind == 4) = true then (F70 (IntKind.wrap .i64 (2 * (IntKind.wrap .i64 (((ls n.Kids).length : Int) - 1)))) sum >>= fun r_34 => (G51 (.p4 n r_34))) else (G51 (.p4 n sum)))) | .p4 n sum => (if (n.Kind == 6) = true then (F70 2 sum >>= fun r_37 => (some r_37)) else (some sum)) partial_fixpoint
def M51 (x : St51) (r : Int) : Prop := match x with | .e n => DFun Tryd.prog gE 51 [v27 n] (AV.int .i64 r) | .p1 n sum => ∀ (tm : Fr) (st : Store) (io0 : Nat), Frm tm [(1, .dptr (c27 n)), (3, .ptr io0 0), (4, .fn 70 [.ptr io0 0])] → SH st [pt io0 (.cells (cI .i64 sum))] → W (X51 r) [.code C51_26, .blk 0, .code C51_75] tm st | .p2 n round sum => ∀ (tm : Fr) (st : Store) (io0 : Nat), Frm tm [(1, .dptr (c27 n)), (3, .ptr io0 0), (4, .fn 70 [.ptr io0 0]), (7, AV.int .i64 round)] → SH st [pt io0 (.cells (cI .i64 sum))] → W (X51 r) [.code C51_67, .blk 0, .code C51_75] tm st | .p3 n t22_ t23_ t24_ sum => ∀ (tm : Fr) (st : Store) (io0 : Nat), Frm tm [(1, .dptr (c27 n)), (3, .ptr io0 0), (4, .fn 70 [.ptr io0 0]), (22, slV 9 v27 t22_), (23, AV.int .i64 t23_), (24, AV.int .i64 t24_)] → SH st [pt io0 (.cells (cI .i64 sum))] → W (X51 r) [.lp C51_31, .blk 1, .code C51_43, .blk 0, .code C51_75] tm st | .p4 n sum => ∀ (tm : Fr) (st : Store) (io0 : Nat), Frm tm [(1, .dptr (c27 n)), (3, .ptr io0 0), (4, .fn 70 [.ptr io0 0])] → SH st [pt io0 (.cells (cI .i64 sum))] → W (X51 r) [.code C51_49, .blk 0, .code C51_75] tm st
theorem w51 : ∀ (x : St51) (r : Int), G51 x = some r → M51 x r := by
 refine G51.partial_correctness (M51) ?_
 intro g ih x r hF
 cases x with
 | e n =>
  dsimp only at hF
  refine bD k51 rfl ?_
  have hs : SH [] [] := SH.nil
  generalize ([] : Store) = st at hs ⊢
  refine rn 0 rfl ?_
  refine W.o (e_boxD (cs := c27 n) rfl (by rw [c27_len]; rfl) (c27_one _)) ?_
  refine rn 1 rfl ?_
  refine al hs (cs := cI .i64 0) rfl fun st b_1 hs => ?_
  refine sr hs 0 rfl rfl rfl (cs' := cI .i64 0) rfl rfl fun st hs => ?_
  refine rn 2 rfl ?_
  refine W.o (e_faddrD rfl) ?_
  refine W.o (e_load1D rfl (DP.fld (DP.refl _) (lrg27_Kind n))) ?_
  refine rn 2 rfl ?_
  refine ci hF rfl (fun c_2 hF => ?_) (fun c_2 hF => ?_)
  · refine rn 0 rfl ?_
    refine W.o (l1 rfl (hs.g 0 rfl) rfl) ?_
    refine rn 1 rfl ?_
    cases hF
    exact rD (rlt rl0) rfl
  · refine rn 2 rfl ?_
    refine ci hF rfl (fun c_3 hF => ?_) (fun c_3 hF => ?_)
    · refine rn 0 rfl ?_
      refine ct rfl c_3 ?_
      exact ih (.p1 n 0) _ hF _ _ b_1 ⟨rfl, rfl, rfl, trivial⟩ hs
    · refine rn 2 rfl ?_
      refine ci hF rfl (fun c_4 hF => ?_) (fun c_4 hF => ?_)
      · refine rn 0 rfl ?_
        refine ct rfl c_4 ?_
        exact ih (.p1 n 0) _ hF _ _ b_1 ⟨rfl, rfl, rfl, trivial⟩ hs
      · refine rn 2 rfl ?_
        refine ci hF rfl (fun c_5 hF => ?_) (fun c_5 hF => ?_)
        · exact ih (.p1 n 0) _ hF _ _ b_1 ⟨rfl, rfl, rfl, trivial⟩ hs
        · refine rn 2 rfl ?_
          refine ci hF rfl (fun c_6 hF => ?_) (fun c_6 hF => ?_)
          · refine rn 0 rfl ?_
            refine W.o (e_faddrD rfl) ?_
            refine W.o (e_load1D rfl (DP.fld (DP.refl _) (lrg27_Kids n))) ?_
            obtain ⟨v_7, g_8, hF⟩ := bind_some hF
            refine W.o (e_iaddrL (rd_V rfl) rfl g_8) ?_
            refine W.o (e_loadND rfl (DP.refl _) (c27_len _)) ?_
            obtain ⟨r_9, g_10, hF⟩ := bind_some hF
            refine df (ih (.e v_7) _ g_10) rfl ?_
            refine rn 1 rfl ?_
            refine W.o (e_faddrD rfl) ?_
            refine W.o (e_load1D rfl (DP.fld (DP.refl _) (lrg27_Kids n))) ?_
            obtain ⟨v_11, g_12, hF⟩ := bind_some hF
            refine W.o (e_iaddrL (rd_V rfl) rfl g_12) ?_
            refine W.o (e_loadND rfl (DP.refl _) (c27_len _)) ?_
            obtain ⟨r_13, g_14, hF⟩ := bind_some hF
            refine df (d71 v_11 _ g_14) rfl ?_
            refine rn 7 rfl ?_
            refine ci hF rfl (fun c_15 hF => ?_) (fun c_15 hF => ?_)
            · refine rj 4 1 rfl ?_
              exact ih (.p2 n (if 16385 < (IntKind.wrap .i64 (r_9 + 1)) then 16385 else (IntKind.wrap .i64 (r_9 + 1))) 0) _ hF _ _ b_1 ⟨rfl, rfl, rfl, rfl, trivial⟩ hs
            · refine rj 0 1 rfl ?_
              exact ih (.p2 n r_9 0) _ hF _ _ b_1 ⟨rfl, rfl, rfl, rfl, trivial⟩ hs
          · obtain ⟨r_16, g_17, hF⟩ := bind_some hF
            refine rn 1 rfl ?_
            refine cv rfl (by kernel_rfl) (ale rfl) (d70 1 0 _ g_17 _ _ b_1 (fun st hs => ?_) _ hs)
            refine rn 0 rfl ?_
            refine W.o (l1 rfl (hs.g 0 rfl) rfl) ?_
            refine rn 1 rfl ?_
            cases hF
            exact rD (rlt rl0) rfl
 | p1 n sum =>
  dsimp only at hF
  intro tm st io0 hf hs
  refine en hf ?_
  refine rn 0 rfl ?_
  refine W.o (e_faddrD rfl) ?_
  refine W.o (e_load1D rfl (DP.fld (DP.refl _) (lrg27_Kids n))) ?_
  refine W.o (e_len (rd_V rfl)) ?_
  refine rn 1 rfl ?_
  exact ih (.p3 n n.Kids ((ls n.Kids).length : Int) 0 sum) _ hF _ _ io0 ⟨rfl, rfl, rfl, rfl, rfl, rfl, trivial⟩ hs
 | p2 n round sum =>
  dsimp only at hF
  intro tm st io0 hf hs
  refine en hf ?_
  refine rn 1 rfl ?_
  refine W.o (e_faddrD rfl) ?_
  refine W.o (e_load1D rfl (DP.fld (DP.refl _) (lrg27_Min n))) ?_
  obtain ⟨r_18, g_19, hF⟩ := bind_some hF
  refine rn 2 rfl ?_
  refine cv rfl (by kernel_rfl) (ale rfl) (d70 (IntKind.wrap .i64 (n.Min * round)) sum _ g_19 _ _ io0 (fun st hs => ?_) _ hs)
  refine rn 0 rfl ?_
  refine W.o (e_faddrD rfl) ?_
  refine W.o (e_load1D rfl (DP.fld (DP.refl _) (lrg27_Max n))) ?_
  refine rn 1 rfl ?_
  refine ci hF rfl (fun c_20 hF => ?_) (fun c_20 hF => ?_)
  · obtain ⟨r_21, g_22, hF⟩ := bind_some hF
    refine rn 3 rfl ?_
    refine cv rfl (by kernel_rfl) (ale rfl) (d70 (IntKind.wrap .i64 (round + 4)) r_18 _ g_22 _ _ io0 (fun st hs => ?_) _ hs)
    refine rn 0 rfl ?_
    refine W.o (l1 rfl (hs.g 0 rfl) rfl) ?_
    refine rn 1 rfl ?_
    cases hF
    exact rD (rlt rl0) rfl
  · refine rn 1 rfl ?_
    refine W.o (e_faddrD rfl) ?_
    refine W.o (e_load1D rfl (DP.fld (DP.refl _) (lrg27_Max n))) ?_
    refine W.o (e_faddrD rfl) ?_
    refine W.o (e_load1D rfl (DP.fld (DP.refl _) (lrg27_Min n))) ?_
    obtain ⟨r_23, g_24, hF⟩ := bind_some hF
    refine rn 4 rfl ?_
    refine cv rfl (by kernel_rfl) (ale rfl) (d70 (IntKind.wrap .i64 ((IntKind.wrap .i64 (n.Max - n.Min)) * (IntKind.wrap .i64 (round + 3)))) r_18 _ g_24 _ _ io0 (fun st hs => ?_) _ hs)
    refine rn 0 rfl ?_
    refine W.o (l1 rfl (hs.g 0 rfl) rfl) ?_
    refine rn 1 rfl ?_
    cases hF
    exact rD (rlt rl0) rfl
 | p3 n t22_ t23_ t24_ sum =>
  dsimp only at hF
  intro tm st io0 hf hs
  refine en hf ?_
  refine lp ?_
  refine rn 1 rfl ?_
  refine ci hF rfl (fun c_25 hF => ?_) (fun c_25 hF => ?_)
  · obtain ⟨v_26, g_27, hF⟩ := bind_some hF
    refine rn 0 rfl ?_
    refine W.o (e_iaddrL (rd_V rfl) rfl g_27) ?_
    refine W.o (e_loadND rfl (DP.refl _) (c27_len _)) ?_
    refine al hs (cs := c27 ({ Kind := 0, Set := (Arr.rep 4 (0 : Int)), Min := 0, Max := 0, Group := 0, Kids := none } : T27)) rfl fun st b_28 hs => ?_
    refine sl hs 0 rfl rfl (LR.whole _ _) (c27_len _) rfl (c27_len _) (c27_one _) rfl fun st hs => ?_
    refine rn 1 rfl ?_
    refine W.o (e_loadN rfl (hs.g 0 rfl) (LR.whole _ _) (c27_len _)) ?_
    obtain ⟨r_29, g_30, hF⟩ := bind_some hF
    refine df (ih (.e v_26) _ g_30) rfl ?_
    obtain ⟨r_31, g_32, hF⟩ := bind_some hF
    refine cv rfl (by kernel_rfl) (ale rfl) (d70 r_29 sum _ g_32 _ _ io0 (fun st hs => ?_) _ (hs.p 2 [1, 0] rfl))
    refine rn 2 rfl ?_
    exact ih (.p3 n t22_ t23_ (IntKind.wrap .i64 (t24_ + 1)) r_31) _ hF _ _ io0 ⟨rfl, rfl, rfl, rfl, rfl, rfl, trivial⟩ (hs.p 2 [0] rfl)
  · refine rn 0 rfl ?_
    refine W.o (e_faddrD rfl) ?_
    refine W.o (e_load1D rfl (DP.fld (DP.refl _) (lrg27_Kind n))) ?_
    refine rn 1 rfl ?_
    refine ci hF rfl (fun c_33 hF => ?_) (fun c_33 hF => ?_)
    · refine rn 1 rfl ?_
      refine W.o (e_faddrD rfl) ?_
      refine W.o (e_load1D rfl (DP.fld (DP.refl _) (lrg27_Kids n))) ?_
      refine W.o (e_len (rd_V rfl)) ?_
      obtain ⟨r_34, g_35, hF⟩ := bind_some hF
      refine rn 2 rfl ?_
      refine cv rfl (by kernel_rfl) (ale rfl) (d70 (IntKind.wrap .i64 (2 * (IntKind.wrap .i64 (((ls n.Kids).length : Int) - 1)))) sum _ g_35 _ _ io0 (fun st hs => ?_) _ hs)
      refine rj 0 1 rfl ?_
      exact ih (.p4 n r_34) _ hF _ _ io0 ⟨rfl, rfl, rfl, trivial⟩ hs
    · refine rj 0 1 rfl ?_
      exact ih (.p4 n sum) _ hF _ _ io0 ⟨rfl, rfl, rfl, trivial⟩ hs
 | p4 n sum =>
  dsimp only at hF
  intro tm st io0 hf hs
  refine en hf ?_
  refine rn 0 rfl ?_
  refine W.o (e_faddrD rfl) ?_
  refine W.o (e_load1D rfl (DP.fld (DP.refl _) (lrg27_Kind n))) ?_
  refine rn 1 rfl ?_
  refine ci hF rfl (fun c_36 hF => ?_) (fun c_36 hF => ?_)
  · obtain ⟨r_37, g_38, hF⟩ := bind_some hF
    refine rn 1 rfl ?_
    refine cv rfl (by kernel_rfl) (ale rfl) (d70 2 sum _ g_38 _ _ io0 (fun st hs => ?_) _ hs)
    refine rn 0 rfl ?_
    refine W.o (l1 rfl (hs.g 0 rfl) rfl) ?_
    refine rn 1 rfl ?_
    cases hF
    exact rD (rlt rl0) rfl
  · refine rn 0 rfl ?_
    refine W.o (l1 rfl (hs.g 0 rfl) rfl) ?_
    refine rn 1 rfl ?_
    cases hF
    exact rD (rlt rl0) rfl
noncomputable def F51 (n : T27) : Option Int := G51 (.e n)
theorem d51 (n : T27) (r : Int) (hF : F51 n = some r) : DFun Tryd.prog gE 51 [v27 n] (AV.int .i64 r) := by
 exact w51 (.e n) r hF
def C68_20 : ACode := .ops [q 32 (.load1 3), q 33 (.bslice 1 1 false [(.bool false)] [(0, (1, (.c (.bool false))))] false), q 34 (.appR 1 1 32 33), q0 (.store 1 3 34)]
def O68_24q1 : List AOp := (q 61 (.faddr 7 60)).y 57 :: (q 62 (.load1 61)).y 57 :: (q 63 (.binI .sub 62 (ki 1))).y 57 :: (q 64 (.iaddrL 1 58 63)).y 57 :: (q 65 (.load1 64)).y 57 :: q 66 (.pick 57 65 (.c (.bool false))) :: []
def O68_24q0 : List AOp := q 37 (.mv 0) :: q 38 (.nilck 37) :: q 39 (.faddr 7 38) :: q 40 (.load1 39) :: q 41 (.binI .geq 40 (ki 1)) :: q 42 (.mv 41) :: (q 43 (.mv 0)).y 42 :: (q 44 (.nilck 43)).y 42 :: (q 45 (.faddr 7 44)).y 42 :: (q 46 (.load1 45)).y 42 :: (q 47 (.binI .leq 46 (ki 9))).y 42 :: q 48 (.pick 42 47 (.c (.bool false))) :: q 49 (.mv 48) :: (q 50 (.mv 0)).y 49 :: (q 51 (.nilck 50)).y 49 :: (q 52 (.faddr 7 51)).y 49 :: (q 53 (.load1 52)).y 49 :: (q 54 (.load1 2)).y 49 :: (q 55 (.binI .leq 53 54)).y 49 :: q 56 (.pick 49 55 (.c (.bool false))) :: q 57 (.mv 56) :: (q 58 (.load1 3)).y 57 :: (q 59 (.mv 0)).y 57 :: (q 60 (.nilck 59)).y 57 :: O68_24q1
def C68_39 : ACode := .s (.ops [q 74 (.mv 72), q 6 (.mv 74)]) (.s (.ops [q 75 (.load1 1)]) (.cond 75 (.draw [] 0 0 [q 76 (.load1 4), q 77 (.mv 0), q 78 (.nilck 77), q 79 (.faddr 8 78), q 80 (.load1 79), q 81 (.mv 6), q 82 (.iaddrL 9 80 81)] [qf 83 76 [82]]) .skip))
def C68_31 : ACode := .s (.ops [q 73 (.binI .lss 72 71)]) (.s (.cond 73 .skip (.exit 1)) (.s (.block 2 C68_39) (.ops [q 84 (.binI .add 72 (ki 1)), q 72 (.mv 84)])))
def C68_47 : ACode := .s (.ops [q 85 (.load1 1), q 86 (.mv 85), (q 87 (.mv 0)).y 86, (q 88 (.nilck 87)).y 86, (q 89 (.faddr 0 88)).y 86, (q 90 (.load1 89)).y 86, (q 91 (.binI .eql 90 (ku 6))).y 86, q 92 (.pick 86 91 (.c (.bool false)))]) (.cond 92 (.draw [] 0 0 [q 93 (.load1 3), q 94 (.mv 0), q 95 (.nilck 94), q 96 (.faddr 7 95), q 97 (.load1 96), q 98 (.binI .sub 97 (ki 1)), q 99 (.iaddrL 1 93 98)] [q0 (.store 1 99 (.c (.bool true)))]) .skip)
def C68_26 : ACode := .s (.s (.ops [q 67 (.mv 0), q 68 (.nilck 67), q 69 (.faddr 8 68), q 70 (.load1 69), q 71 (.len 70), q 72 (.mv (ki 0))]) (.block 1 (.loop C68_31))) C68_47
def C68_3 : ACode := .s (.s (.ops [q 12 (.load1 1), q 13 (.un .not 12)]) (.cond 13 .ret .skip)) (.s (.s (.ops [q 14 (.mv 0), q 15 (.nilck 14), q 16 (.faddr 0 15), q 17 (.load1 16)]) (.block 0 (.s (.ops [q 19 (.binI .eql 17 (ku 6)), q 18 (.mv 19)]) (.cond 18 (.s (.ops [q 20 (.load1 2), q 21 (.binI .add 20 (ki 1)), q0 (.store 1 2 21)]) (.s (.draw [] 0 0 [q 22 (.mv 0), q 23 (.nilck 22), q 24 (.faddr 7 23), q 25 (.load1 24), q 26 (.load1 2), q 27 (.binI .eql 25 26), q 28 (.mv 27), (q 29 (.load1 2)).y 28, (q 30 (.binI .leq 29 (ki 99))).y 28, q 31 (.pick 28 30 (.c (.bool false)))] [q0 (.store 1 1 31)]) C68_20)) (.s (.ops [q 36 (.binI .eql 17 (ku 7)), q 35 (.mv 36)]) (.cond 35 (.draw [] 0 0 O68_24q0 [q0 (.store 1 1 66)]) .skip)))))) C68_26)
def C68_1 : ACode := .s (.ops [q 7 (.load1 1), q 8 (.mv 7), (q 9 (.mv 0)).y 8, (qc 10 69 [9]).y 8, q 11 (.pick 8 10 (.c (.bool false))), q0 (.store 1 1 11)]) C68_3
def R68 : List RA := []
theorem k68 : compF Tryd.prog (muL [34]) 68 = some ⟨100, C68_1, R68⟩ := by kernel_rfl
noncomputable abbrev X68 (K : AV → Store → Prop) : Cx := cK Tryd.prog gE 100 R68 (isK K) [34]
inductive St68 where
 | e (n : T27) (q0_ : Bool) (q1_ : Int) (q2_ : Sl Bool)
 | p1 (n : T27) (q0_ : Bool) (q1_ : Int) (q2_ : Sl Bool)
 | p2 (n : T27) (q0_ : Bool) (q1_ : Int) (q2_ : Sl Bool)
 | p3 (n : T27) (q0_ : Bool) (q1_ : Int) (q2_ : Sl Bool)
 | p4 (n : T27) (t71_ : Int) (t72_ : Int) (q0_ : Bool) (q1_ : Int) (q2_ : Sl Bool)
noncomputable def G68 : St68 → Option (Bool × Int × Sl Bool) | .e n q0_ q1_ q2_ => (if q0_ = true then (F69 n >>= fun r_2 => (G68 (.p1 n r_2 q1_ q2_))) else (G68 (.p1 n false q1_ q2_))) | .p1 n q0_ q1_ q2_ => (if (!q0_) = true then (some (q0_, q1_, q2_)) else (if (n.Kind == 6) = true then (if (n.Group == (IntKind.wrap .i64 (q1_ + 1))) = true then (G68 (.p2 n (decide ((IntKind.wrap .i64 (q1_ + 1)) ≤ 99)) (IntKind.wrap .i64 (q1_ + 1)) q2_)) else (G68 (.p2 n false (IntKind.wrap .i64 (q1_ + 1)) q2_))) else (if (n.Kind == 7) = true then (if (decide (n.Group ≥ 1)) = true then (if (decide (n.Group ≤ 9)) = true then (if (decide (n.Group ≤ q1_)) = true then (ix (ls q2_) (IntKind.wrap .i64 (n.Group - 1)) >>= fun v_12 => (G68 (.p3 n v_12 q1_ q2_))) else (G68 (.p3 n false q1_ q2_))) else (G68 (.p3 n false q1_ q2_))) else (G68 (.p3 n false q1_ q2_))) else (G68 (.p3 n q0_ q1_ q2_))))) | .p2 n q0_ q1_ q2_ => (if ((ls q2_).length + (ls (some ([false] : List Bool))).length) * 1 ≤ 140737488355328 then (G68 (.p3 n q0_ q1_ (sapp q2_ (ls (some ([false] : List Bool)))))) else none) | .p3 n q0_ q1_ q2_ => (G68 (.p4 n ((ls n.Kids).length : Int) 0 q0_ q1_ q2_)) | .p4 n t71_ t72_ q0_ q1_ q2_ => (if (decide (t72_ < t71_)) = true then (if q0_ = true then (ix (ls n.Kids) t72_ >>= fun v_20 => (G68 (.e v_20 q0_ q1_ q2_) >>= fun r_22 => (G68 (.p4 n t71_ (IntKind.wrap .i64 (t72_ + 1)) r_22.1 r_22.2.1 r_22.2.2)))) else (G68 (.p4 n t71_ (IntKind.wrap .i64 (t72_ + 1)) q0_ q1_ q2_))) else (if q0_ = true then (if (n.Kind == 6) = true then (ix (ls q2_) (IntKind.wrap .i64 (n.Group - 1)) >>= fun v_27 => (some (q0_, q1_, (vset q2_ (IntKind.wrap .i64 (n.Group - 1)) true)))) else (some (q0_, q1_, q2_))) else (some (q0_, q1_, q2_)))) partial_fixpoint
def M68 (x : St68) (r : Bool × Int × Sl Bool) : Prop := match x with | .e n q0_ q1_ q2_ => ∀ (K : AV → Store → Prop) (Ls : List Asn) (iQ0 : Nat) (iQ1 : Nat) (iQ2 : Nat) (iW3 : Nat), (∀ st, SH st (pt iQ0 (.cells (cB r.1)) :: pt iQ1 (.cells (cI .i64 r.2.1)) :: bx88_r iQ2 r.2.2 :: pt iW3 (.cells [.fn 68 [.ptr iQ0 0, .ptr iQ1 0, .ptr iQ2 0, .ptr iW3 0]]) :: Ls) → K (AV.tup []) st) → ∀ (st : Store), SH st (pt iQ0 (.cells (cB q0_)) :: pt iQ1 (.cells (cI .i64 q1_)) :: bx88_r iQ2 q2_ :: pt iW3 (.cells [.fn 68 [.ptr iQ0 0, .ptr iQ1 0, .ptr iQ2 0, .ptr iW3 0]]) :: Ls) → XCall Tryd.prog gE 68 [.dptr (c27 n), .ptr iQ0 0, .ptr iQ1 0, .ptr iQ2 0, .ptr iW3 0] st K | .p1 n q0_ q1_ q2_ => ∀ (K : AV → Store → Prop) (Ls : List Asn) (iQ0 : Nat) (iQ1 : Nat) (iQ2 : Nat) (iW3 : Nat), (∀ st, SH st (pt iQ0 (.cells (cB r.1)) :: pt iQ1 (.cells (cI .i64 r.2.1)) :: bx88_r iQ2 r.2.2 :: pt iW3 (.cells [.fn 68 [.ptr iQ0 0, .ptr iQ1 0, .ptr iQ2 0, .ptr iW3 0]]) :: Ls) → K (AV.tup []) st) → ∀ (tm : Fr) (st : Store), Frm tm [(0, .dptr (c27 n)), (1, .ptr iQ0 0), (2, .ptr iQ1 0), (3, .ptr iQ2 0), (4, .ptr iW3 0)] → SH st (pt iQ0 (.cells (cB q0_)) :: pt iQ1 (.cells (cI .i64 q1_)) :: bx88_r iQ2 q2_ :: pt iW3 (.cells [.fn 68 [.ptr iQ0 0, .ptr iQ1 0, .ptr iQ2 0, .ptr iW3 0]]) :: Ls) → W (X68 K) [.code C68_3] tm st | .p2 n q0_ q1_ q2_ => ∀ (K : AV → Store → Prop) (Ls : List Asn) (iQ0 : Nat) (iQ1 : Nat) (iQ2 : Nat) (iW3 : Nat), (∀ st, SH st (pt iQ0 (.cells (cB r.1)) :: pt iQ1 (.cells (cI .i64 r.2.1)) :: bx88_r iQ2 r.2.2 :: pt iW3 (.cells [.fn 68 [.ptr iQ0 0, .ptr iQ1 0, .ptr iQ2 0, .ptr iW3 0]]) :: Ls) → K (AV.tup []) st) → ∀ (tm : Fr) (st : Store), Frm tm [(0, .dptr (c27 n)), (1, .ptr iQ0 0), (3, .ptr iQ2 0), (4, .ptr iW3 0)] → SH st (pt iQ0 (.cells (cB q0_)) :: pt iQ1 (.cells (cI .i64 q1_)) :: bx88_r iQ2 q2_ :: pt iW3 (.cells [.fn 68 [.ptr iQ0 0, .ptr iQ1 0, .ptr iQ2 0, .ptr iW3 0]]) :: Ls) → W (X68 K) [.code C68_20, .blk 0, .code C68_26] tm st | .p3 n q0_ q1_ q2_ => ∀ (K : AV → Store → Prop) (Ls : List Asn) (iQ0 : Nat) (iQ1 : Nat) (iQ2 : Nat) (iW3 : Nat), (∀ st, SH st (pt iQ0 (.cells (cB r.1)) :: pt iQ1 (.cells (cI .i64 r.2.1)) :: bx88_r iQ2 r.2.2 :: pt iW3 (.cells [.fn 68 [.ptr iQ0 0, .ptr iQ1 0, .ptr iQ2 0, .ptr iW3 0]]) :: Ls) → K (AV.tup []) st) → ∀ (tm : Fr) (st : Store), Frm tm [(0, .dptr (c27 n)), (1, .ptr iQ0 0), (3, .ptr iQ2 0), (4, .ptr iW3 0)] → SH st (pt iQ0 (.cells (cB q0_)) :: pt iQ1 (.cells (cI .i64 q1_)) :: bx88_r iQ2 q2_ :: pt iW3 (.cells [.fn 68 [.ptr iQ0 0, .ptr iQ1 0, .ptr iQ2 0, .ptr iW3 0]]) :: Ls) → W (X68 K) [.code C68_26] tm st | .p4 n t71_ t72_ q0_ q1_ q2_ => ∀ (K : AV → Store → Prop) (Ls : List Asn) (iQ0 : Nat) (iQ1 : Nat) (iQ2 : Nat) (iW3 : Nat), (∀ st, SH st (pt iQ0 (.cells (cB r.1)) :: pt iQ1 (.cells (cI .i64 r.2.1)) :: bx88_r iQ2 r.2.2 :: pt iW3 (.cells [.fn 68 [.ptr iQ0 0, .ptr iQ1 0, .ptr iQ2 0, .ptr iW3 0]]) :: Ls) → K (AV.tup []) st) → ∀ (tm : Fr) (st : Store), Frm tm [(0, .dptr (c27 n)), (1, .ptr iQ0 0), (3, .ptr iQ2 0), (4, .ptr iW3 0), (71, AV.int .i64 t71_), (72, AV.int .i64 t72_)] → SH st (pt iQ0 (.cells (cB q0_)) :: pt iQ1 (.cells (cI .i64 q1_)) :: bx88_r iQ2 q2_ :: pt iW3 (.cells [.fn 68 [.ptr iQ0 0, .ptr iQ1 0, .ptr iQ2 0, .ptr iW3 0]]) :: Ls) → W (X68 K) [.lp C68_31, .blk 1, .code C68_47] tm st
theorem w68 : ∀ (x : St68) (r : Bool × Int × Sl Bool), G68 x = some r → M68 x r := by
 refine G68.partial_correctness (M68) ?_
 intro g ih x r hF
 cases x with
 | e n q0_ q1_ q2_ =>
  dsimp only at hF
  intro K Ls iQ0 iQ1 iQ2 iW3 hK  st hs
  refine bS k68 rfl ?_
  refine rn 0 rfl ?_
  refine W.o (l1 rfl (hs.g 0 rfl) rfl) ?_
  refine rn 1 rfl ?_
  refine bi hF (fun c_1 hF => ?_) (fun c_1 hF => ?_)
  · refine wfx 8 rfl c_1 ?_
    obtain ⟨r_2, g_3, hF⟩ := bind_some hF
    refine rn 1 rfl ?_
    refine W.on rfl rfl ?_
    refine df (d69 n _ g_3) rfl ?_
    refine rn 1 rfl ?_
    refine sr hs 0 rfl rfl rfl (cs' := cB r_2) rfl rfl fun st hs => ?_
    refine rj 0 1 rfl ?_
    exact ih (.p1 n r_2 q1_ q2_) _ hF K Ls iQ0 iQ1 iQ2 iW3 hK _ _ ⟨rfl, rfl, rfl, rfl, rfl, trivial⟩ hs
  · refine wfx 8 rfl c_1 ?_
    refine rn 3 rfl ?_
    refine sr hs 0 rfl rfl rfl (cs' := cB false) rfl rfl fun st hs => ?_
    refine rj 0 1 rfl ?_
    exact ih (.p1 n false q1_ q2_) _ hF K Ls iQ0 iQ1 iQ2 iW3 hK _ _ ⟨rfl, rfl, rfl, rfl, rfl, trivial⟩ hs
 | p1 n q0_ q1_ q2_ =>
  dsimp only at hF
  intro K Ls iQ0 iQ1 iQ2 iW3 hK tm st hf hs
  refine en hf ?_
  refine rn 0 rfl ?_
  refine W.o (l1 rfl (hs.g 0 rfl) rfl) ?_
  refine rn 1 rfl ?_
  refine ci hF rfl (fun c_4 hF => ?_) (fun c_4 hF => ?_)
  · cases hF
    exact rS rl0 (hK _ hs) rfl
  · refine rn 1 rfl ?_
    refine W.o (e_nilckD rfl) ?_
    refine W.o (e_faddrD rfl) ?_
    refine W.o (e_load1D rfl (DP.fld (DP.refl _) (lrg27_Kind n))) ?_
    refine rn 2 rfl ?_
    refine ci hF rfl (fun c_5 hF => ?_) (fun c_5 hF => ?_)
    · refine rn 0 rfl ?_
      refine W.o (l1 rfl (hs.g 1 rfl) rfl) ?_
      refine rn 1 rfl ?_
      refine sr hs 1 rfl rfl rfl (cs' := cI .i64 (IntKind.wrap .i64 (q1_ + 1))) rfl rfl fun st hs => ?_
      refine rn 0 rfl ?_
      have h0 := hs
      refine dr0 ?_
      refine dn 1 rfl ?_
      refine de rfl (e_nilckD rfl) ?_
      refine de rfl (e_faddrD rfl) ?_
      refine de rfl (e_load1D rfl (DP.fld (DP.refl _) (lrg27_Group n))) ?_
      refine de rfl (l1 rfl (h0.g 1 rfl) rfl) ?_
      refine dn 2 rfl ?_
      refine bi hF (fun c_6 hF => ?_) (fun c_6 hF => ?_)
      · refine dfx 28 rfl c_6 ?_
        refine don rfl rfl ?_
        refine de rfl (l1 rfl (h0.g 1 rfl) rfl) ?_
        refine dn 2 rfl ?_
        refine dz ?_
        refine sr hs 0 rfl rfl rfl (cs' := cB (decide ((IntKind.wrap .i64 (q1_ + 1)) ≤ 99))) rfl rfl fun st hs => ?_
        refine rj 0 1 rfl ?_
        exact ih (.p2 n (decide ((IntKind.wrap .i64 (q1_ + 1)) ≤ 99)) (IntKind.wrap .i64 (q1_ + 1)) q2_) _ hF K Ls iQ0 iQ1 iQ2 iW3 hK _ _ ⟨rfl, rfl, rfl, rfl, trivial⟩ hs
      · refine dfx 28 rfl c_6 ?_
        refine dn 3 rfl ?_
        refine dz ?_
        refine sr hs 0 rfl rfl rfl (cs' := cB false) rfl rfl fun st hs => ?_
        refine rj 0 1 rfl ?_
        exact ih (.p2 n false (IntKind.wrap .i64 (q1_ + 1)) q2_) _ hF K Ls iQ0 iQ1 iQ2 iW3 hK _ _ ⟨rfl, rfl, rfl, rfl, trivial⟩ hs
    · refine rn 2 rfl ?_
      refine ci hF rfl (fun c_7 hF => ?_) (fun c_7 hF => ?_)
      · have hs := (hs.p 4 [2, 0, 0, 0] rfl)
        obtain ⟨j_8, hs⟩ := SH.bx1o hs
        have h0 := hs
        refine dr0 ?_
        refine dn 1 rfl ?_
        refine de rfl (e_nilckD rfl) ?_
        refine de rfl (e_faddrD rfl) ?_
        refine de rfl (e_load1D rfl (DP.fld (DP.refl _) (lrg27_Group n))) ?_
        refine dn 2 rfl ?_
        refine bi hF (fun c_9 hF => ?_) (fun c_9 hF => ?_)
        · refine dfx 42 rfl c_9 ?_
          refine dn 1 rfl ?_
          refine don rfl rfl ?_
          refine de rfl (e_nilckD rfl) ?_
          refine don rfl rfl ?_
          refine de rfl (e_faddrD rfl) ?_
          refine don rfl rfl ?_
          refine de rfl (e_load1D rfl (DP.fld (DP.refl _) (lrg27_Group n))) ?_
          refine dn 3 rfl ?_
          refine bi hF (fun c_10 hF => ?_) (fun c_10 hF => ?_)
          · refine dfx 49 rfl c_10 ?_
            refine dn 1 rfl ?_
            refine don rfl rfl ?_
            refine de rfl (e_nilckD rfl) ?_
            refine don rfl rfl ?_
            refine de rfl (e_faddrD rfl) ?_
            refine don rfl rfl ?_
            refine de rfl (e_load1D rfl (DP.fld (DP.refl _) (lrg27_Group n))) ?_
            refine don rfl rfl ?_
            refine de rfl (l1 rfl (h0.g 3 rfl) rfl) ?_
            refine dn 3 rfl ?_
            refine bi hF (fun c_11 hF => ?_) (fun c_11 hF => ?_)
            · refine dfx 57 rfl c_11 ?_
              refine don rfl rfl ?_
              refine de rfl (l1 rfl (h0.g 0 rfl) rfl) ?_
              refine dn 1 rfl ?_
              refine don rfl rfl ?_
              refine de rfl (e_nilckD rfl) ?_
              refine don rfl rfl ?_
              refine de rfl (e_faddrD rfl) ?_
              refine don rfl rfl ?_
              refine de rfl (e_load1D rfl (DP.fld (DP.refl _) (lrg27_Group n))) ?_
              obtain ⟨v_12, g_13, hF⟩ := bind_some hF
              refine dn 1 rfl ?_
              refine don rfl rfl ?_
              refine de rfl (e_iaddrV h0 1 rfl rfl rfl g_13) ?_
              refine don rfl rfl ?_
              refine de rfl (e_load1 rfl (SH.gv h0 1 rfl g_13) (LR.cast (LR.comp (LR.whole _ _) (lrV_get cB_len g_13)) (by omega))) ?_
              refine dn 1 rfl ?_
              refine dz ?_
              refine sr hs 2 rfl rfl rfl (cs' := cB v_12) rfl rfl fun st hs => ?_
              refine rj 0 2 rfl ?_
              have hs : SH st (bx88_r iQ2 q2_ :: _) := SH.bx1c j_8 (hs.p 5 [0, 0, 0, 0, 0] rfl)
              exact ih (.p3 n v_12 q1_ q2_) _ hF K Ls iQ0 iQ1 iQ2 iW3 hK _ _ ⟨rfl, rfl, rfl, rfl, trivial⟩ (hs.p 4 [1, 1, 0, 0] rfl)
            · refine dfx 57 rfl c_11 ?_
              refine dn 9 rfl ?_
              refine dz ?_
              refine sr hs 2 rfl rfl rfl (cs' := cB false) rfl rfl fun st hs => ?_
              refine rj 0 2 rfl ?_
              have hs : SH st (bx88_r iQ2 q2_ :: _) := SH.bx1c j_8 (hs.p 5 [0, 0, 0, 0, 0] rfl)
              exact ih (.p3 n false q1_ q2_) _ hF K Ls iQ0 iQ1 iQ2 iW3 hK _ _ ⟨rfl, rfl, rfl, rfl, trivial⟩ (hs.p 4 [1, 1, 0, 0] rfl)
          · refine dfx 49 rfl c_10 ?_
            refine dn 17 rfl ?_
            refine dz ?_
            refine sr hs 2 rfl rfl rfl (cs' := cB false) rfl rfl fun st hs => ?_
            refine rj 0 2 rfl ?_
            have hs : SH st (bx88_r iQ2 q2_ :: _) := SH.bx1c j_8 (hs.p 5 [0, 0, 0, 0, 0] rfl)
            exact ih (.p3 n false q1_ q2_) _ hF K Ls iQ0 iQ1 iQ2 iW3 hK _ _ ⟨rfl, rfl, rfl, rfl, trivial⟩ (hs.p 4 [1, 1, 0, 0] rfl)
        · refine dfx 42 rfl c_9 ?_
          refine dn 24 rfl ?_
          refine dz ?_
          refine sr hs 2 rfl rfl rfl (cs' := cB false) rfl rfl fun st hs => ?_
          refine rj 0 2 rfl ?_
          have hs : SH st (bx88_r iQ2 q2_ :: _) := SH.bx1c j_8 (hs.p 5 [0, 0, 0, 0, 0] rfl)
          exact ih (.p3 n false q1_ q2_) _ hF K Ls iQ0 iQ1 iQ2 iW3 hK _ _ ⟨rfl, rfl, rfl, rfl, trivial⟩ (hs.p 4 [1, 1, 0, 0] rfl)
      · refine rj 0 2 rfl ?_
        exact ih (.p3 n q0_ q1_ q2_) _ hF K Ls iQ0 iQ1 iQ2 iW3 hK _ _ ⟨rfl, rfl, rfl, rfl, trivial⟩ hs
 | p2 n q0_ q1_ q2_ =>
  dsimp only at hF
  intro K Ls iQ0 iQ1 iQ2 iW3 hK tm st hf hs
  refine en hf ?_
  have hs := (hs.p 4 [2, 0, 0, 0] rfl)
  obtain ⟨j_14, hs⟩ := SH.bx1o hs
  refine rn 0 rfl ?_
  refine W.o (l1 rfl (hs.g 0 rfl) rfl) ?_
  refine bs (f := AV.bool) ([false] : List Bool) hs rfl rfl rfl rfl fun st b_15 hs => ?_
  obtain ⟨g_16, hF⟩ := grd_some hF
  refine apV (f := AV.bool) (c := cB) (ys := ls (some ([false] : List Bool))) hs 2 rfl rfl (ae_rd (rd_W (o := (some ([false] : List Bool))) (id := b_15) rfl)) g_16 cB_len (fun _ => rfl) (fun _ => rfl) fun st b_17 hs => ?_
  refine so hs 1 rfl rfl rfl (rvV_c (es := 1) (o := sapp q2_ (ls (some ([false] : List Bool)))) (id := b_17)) rfl (cs' := [rvV 1 (sapp q2_ (ls (some ([false] : List Bool)))) b_17]) rfl rfl fun st hs => ?_
  refine rj 0 2 rfl ?_
  have hs : SH st (bx88_r iQ2 (sapp q2_ (ls (some ([false] : List Bool)))) :: _) := SH.bx1c b_17 (hs.p 6 [1, 1, 0, 0, 0, 0] rfl)
  exact ih (.p3 n q0_ q1_ (sapp q2_ (ls (some ([false] : List Bool))))) _ hF K Ls iQ0 iQ1 iQ2 iW3 hK _ _ ⟨rfl, rfl, rfl, rfl, trivial⟩ (hs.p 5 [2, 2, 0, 1] rfl)
 | p3 n q0_ q1_ q2_ =>
  dsimp only at hF
  intro K Ls iQ0 iQ1 iQ2 iW3 hK tm st hf hs
  refine en hf ?_
  refine rn 1 rfl ?_
  refine W.o (e_nilckD rfl) ?_
  refine W.o (e_faddrD rfl) ?_
  refine W.o (e_load1D rfl (DP.fld (DP.refl _) (lrg27_Kids n))) ?_
  refine W.o (e_len (rd_V rfl)) ?_
  refine rn 1 rfl ?_
  exact ih (.p4 n ((ls n.Kids).length : Int) 0 q0_ q1_ q2_) _ hF K Ls iQ0 iQ1 iQ2 iW3 hK _ _ ⟨rfl, rfl, rfl, rfl, rfl, rfl, trivial⟩ hs
 | p4 n t71_ t72_ q0_ q1_ q2_ =>
  dsimp only at hF
  intro K Ls iQ0 iQ1 iQ2 iW3 hK tm st hf hs
  refine en hf ?_
  refine lp ?_
  refine rn 1 rfl ?_
  refine ci hF rfl (fun c_18 hF => ?_) (fun c_18 hF => ?_)
  · refine rn 2 rfl ?_
    refine W.o (l1 rfl (hs.g 0 rfl) rfl) ?_
    refine rn 0 rfl ?_
    refine ci hF rfl (fun c_19 hF => ?_) (fun c_19 hF => ?_)
    · have h0 := hs
      refine dr0 ?_
      refine de rfl (l1 rfl (h0.g 3 rfl) rfl) ?_
      refine dn 1 rfl ?_
      refine de rfl (e_nilckD rfl) ?_
      refine de rfl (e_faddrD rfl) ?_
      refine de rfl (e_load1D rfl (DP.fld (DP.refl _) (lrg27_Kids n))) ?_
      obtain ⟨v_20, g_21, hF⟩ := bind_some hF
      refine dn 1 rfl ?_
      refine de rfl (e_iaddrL (rd_V rfl) rfl g_21) ?_
      refine dz ?_
      obtain ⟨r_22, g_23, hF⟩ := bind_some hF
      refine cv rfl (by kernel_rfl) (ale rfl) (ih (.e v_20 q0_ q1_ q2_) _ g_23 _ _ iQ0 iQ1 iQ2 iW3 (fun st hs => ?_) _ hs)
      refine rn 2 rfl ?_
      exact ih (.p4 n t71_ (IntKind.wrap .i64 (t72_ + 1)) r_22.1 r_22.2.1 r_22.2.2) _ hF K Ls iQ0 iQ1 iQ2 iW3 hK _ _ ⟨rfl, rfl, rfl, rfl, rfl, rfl, trivial⟩ hs
    · refine rn 2 rfl ?_
      exact ih (.p4 n t71_ (IntKind.wrap .i64 (t72_ + 1)) q0_ q1_ q2_) _ hF K Ls iQ0 iQ1 iQ2 iW3 hK _ _ ⟨rfl, rfl, rfl, rfl, rfl, rfl, trivial⟩ hs
  · refine rn 0 rfl ?_
    refine W.o (l1 rfl (hs.g 0 rfl) rfl) ?_
    refine rn 1 rfl ?_
    refine bi hF (fun c_24 hF => ?_) (fun c_24 hF => ?_)
    · refine wfx 86 rfl c_24 ?_
      refine rn 1 rfl ?_
      refine W.on rfl rfl ?_
      refine W.o (e_nilckD rfl) ?_
      refine W.on rfl rfl ?_
      refine W.o (e_faddrD rfl) ?_
      refine W.on rfl rfl ?_
      refine W.o (e_load1D rfl (DP.fld (DP.refl _) (lrg27_Kind n))) ?_
      refine rn 2 rfl ?_
      refine ci hF rfl (fun c_25 hF => ?_) (fun c_25 hF => ?_)
      · have hs := (hs.p 4 [2, 0, 0, 0] rfl)
        obtain ⟨j_26, hs⟩ := SH.bx1o hs
        have h0 := hs
        refine dr0 ?_
        refine de rfl (l1 rfl (h0.g 0 rfl) rfl) ?_
        refine dn 1 rfl ?_
        refine de rfl (e_nilckD rfl) ?_
        refine de rfl (e_faddrD rfl) ?_
        refine de rfl (e_load1D rfl (DP.fld (DP.refl _) (lrg27_Group n))) ?_
        obtain ⟨v_27, g_28, hF⟩ := bind_some hF
        refine dn 1 rfl ?_
        refine de rfl (e_iaddrV h0 1 rfl rfl rfl g_28) ?_
        refine dz ?_
        refine slv hs 1 rfl rfl g_28 rfl (LR.cast (LR.comp (LR.whole _ _) (lrV_set cB_len g_28 true)) (by omega)) (cB_len _) rfl (cB_len _) (cB_one _) rfl fun st hs => ?_
        have hs := hs.cong 0 rfl (cs' := [rvV 1 (vset q2_ (IntKind.wrap .i64 (n.Group - 1)) true) j_26]) (by simp only [rvV_vset]) rfl
        refine rn 0 rfl ?_
        have hs : SH st (bx88_r iQ2 (vset q2_ (IntKind.wrap .i64 (n.Group - 1)) true) :: _) := SH.bx1c j_26 (hs.p 5 [0, 0, 0, 0, 0] rfl)
        cases hF
        exact eS rl0 (hK _ (hs.p 4 [1, 1, 0, 0] rfl)) rfl
      · refine rn 0 rfl ?_
        cases hF
        exact eS rl0 (hK _ hs) rfl
    · refine wfx 86 rfl c_24 ?_
      refine rn 6 rfl ?_
      refine cf rfl rfl ?_
      refine rn 0 rfl ?_
      cases hF
      exact eS rl0 (hK _ hs) rfl
noncomputable def F68 (n : T27) (q0_ : Bool) (q1_ : Int) (q2_ : Sl Bool) : Option (Bool × Int × Sl Bool) := G68 (.e n q0_ q1_ q2_)
theorem d68 (n : T27) (q0_ : Bool) (q1_ : Int) (q2_ : Sl Bool) (r : Bool × Int × Sl Bool) (hF : F68 n q0_ q1_ q2_ = some r) : ∀ (K : AV → Store → Prop) (Ls : List Asn) (iQ0 : Nat) (iQ1 : Nat) (iQ2 : Nat) (iW3 : Nat), (∀ st, SH st (pt iQ0 (.cells (cB r.1)) :: pt iQ1 (.cells (cI .i64 r.2.1)) :: bx88_r iQ2 r.2.2 :: pt iW3 (.cells [.fn 68 [.ptr iQ0 0, .ptr iQ1 0, .ptr iQ2 0, .ptr iW3 0]]) :: Ls) → K (AV.tup []) st) → ∀ (st : Store), SH st (pt iQ0 (.cells (cB q0_)) :: pt iQ1 (.cells (cI .i64 q1_)) :: bx88_r iQ2 q2_ :: pt iW3 (.cells [.fn 68 [.ptr iQ0 0, .ptr iQ1 0, .ptr iQ2 0, .ptr iW3 0]]) :: Ls) → XCall Tryd.prog gE 68 [.dptr (c27 n), .ptr iQ0 0, .ptr iQ1 0, .ptr iQ2 0, .ptr iW3 0] st K := by
 exact w68 (.e n q0_ q1_ q2_) r hF
end Go.Proofs.YtcidnoghoifmmaaDoor
end
section
/-
  Functions of the program's as plain functions.
-/

set_option linter.unusedVariables false
set_option linter.unusedSimpArgs false
set_option maxRecDepth 4000
set_option maxHeartbeats 4000000
namespace Go.Proofs.YtcidnoghoifmmaaDoor
open Go AW
attribute [local irreducible] W WD SH XS XLoop DFun XCall XYield
def C50_10 : ACode := .skip
def C50_11 : ACode := .block 1 (.s (.ops [q 10 (.load1 3), q 11 (.binI .add 10 (ki 1)), q0 (.store 1 3 11)]) (.s (.ops [q 12 (.load1 3), q 13 (.binI .gtr 12 (ki 8192))]) (.cond 13 (.s (.ops [q0 (.store 1 2 (ki 3))]) .ret) .skip)))
def C50_9 : ACode := .range 8 [9] C50_10 C50_11
def C50_36 : ACode := .cond 18 (.s (.ops [q0 (.store 1 2 (ki 90))]) .ret) .skip
def C50_21 : ACode := .s (.ops [q 4 (.alloc [(.int .i64 0)]), q0 (.store 1 4 (ki 0))]) (.s (.ops [q 5 (.alloc [.nils])]) (.s (.ops [q 6 (.alloc [(.bool false)]), q0 (.store 1 6 (.c (.bool true)))]) (.s (.ops [q 7 (.alloc [.nilfn])]) (.s (.ops [q 14 (.mkfn 68 [6, 4, 5, 7]), q0 (.store 1 7 14)]) (.s (.ops [q 15 (.load1 7), qf 16 15 [1]]) (.s (.s (.ops [q 17 (.load1 6), q 18 (.un .not 17)]) C50_36) (.s (.ops [q0 (.store 1 2 (ki 0))]) .ret)))))))
def C50_1 : ACode := .s (.ops [q 1 (.boxD 9 0), q 2 (.alloc [(.int .i64 0)])]) (.s (.ops [q 3 (.alloc [(.int .i64 0)]), q0 (.store 1 3 (ki 0))]) (.s (.s (.ops [qc 8 53 [1]]) (.block 0 C50_9)) C50_21))
def R50 : List RA := [(.cell1 2)]
theorem k50 : compF Tryd.prog (muL [1]) 50 = some ⟨19, C50_1, R50⟩ := by kernel_rfl
noncomputable abbrev X50 (r : Int) : Cx := cD Tryd.prog gE 19 R50 (AV.int .i64 r) [1]
noncomputable def B50_1 (n : T27) (t8_ : T27) (x : T27) (zz : Int × Int × Nat) : Option (Bool × (Int × Int × Nat)) := if zz.2.2 = 0 then (if (decide ((IntKind.wrap .i64 (zz.2.1 + 1)) > 8192)) = true then (some (false, (3, IntKind.wrap .i64 (zz.2.1 + 1), 1))) else (some (true, (zz.1, IntKind.wrap .i64 (zz.2.1 + 1), 0))))
else none
theorem b50_1 (n : T27) (t8_ : T27) (x : T27) (zz : Int × Int × Nat) (r : Bool × (Int × Int × Nat)) (hF : B50_1 n t8_ x zz = some r) (K : AV → Store → Prop) (Ls : List Asn) (iL : Nat) (ca cb : Code) (tm0 : Fr) (io0 : Nat) (io1 : Nat) (q1 : compC Tryd.prog 19 (rnd (muL [1])) ca = some C50_10) (q2 : compC Tryd.prog 19 (rnd (muL [1])) cb = some C50_11) (hf : Frm tm0 [(1, .dptr (c27 n)), (2, .ptr io0 0), (3, .ptr io1 0), (8, .fn 81 [.dptr [.dptr (c27 t8_)]])]) (hK : ∀ st, SH st (bun [pt iL (.loop 19 [9] ca cb tm0 (lsW r.2.2.2) (ljW [.ret] r.2.2.2)), pt io0 (.cells (cI .i64 r.2.1)), pt io1 (.cells (cI .i64 r.2.2.1))] :: Ls) → K (.bool r.1) st) (st : Store) (hs : SH st (bun [pt iL (.loop 19 [9] ca cb tm0 (lsW zz.2.2) (ljW [.ret] zz.2.2)), pt io0 (.cells (cI .i64 zz.1)), pt io1 (.cells (cI .i64 zz.2.1))] :: Ls)) : XYield Tryd.prog gE iL [.dptr (c27 x)] st K := by
 unfold B50_1 at hF
 obtain ⟨c_, hF⟩ := grd_some hF
 replace hs : SH st ([pt iL (.loop 19 [9] ca cb tm0 (lsW zz.2.2) (ljW [.ret] zz.2.2)), pt io0 (.cells (cI .i64 zz.1)), pt io1 (.cells (cI .i64 zz.2.1))] ++ Ls) := SH.unbun hs
 rw [c_] at hs
 replace hs : SH st (pt iL (.loop 19 [9] ca cb tm0 .ready none) :: pt io0 (.cells (cI .i64 zz.1)) :: pt io1 (.cells (cI .i64 zz.2.1)) :: Ls) := hs
 replace hK : (∀ st, SH st (pt iL (.loop 19 [9] ca cb tm0 (lsW r.2.2.2) (ljW [.ret] r.2.2.2)) :: pt io0 (.cells (cI .i64 r.2.1)) :: pt io1 (.cells (cI .i64 r.2.2.1)) :: Ls) → K (.bool r.1) st) := fun st hs => hK st (SH.bun hs)
 refine bR' (mu := [1]) q1 q2 hs rfl rfl (fun _ _ => trivial) ?_
 rw [putL1 hf]
 refine rn 0 rfl ?_
 refine rdW hs fun st hs => ?_
 refine rn 0 rfl ?_
 refine W.o (l1 rfl (hs.g 2 rfl) rfl) ?_
 refine rn 1 rfl ?_
 refine sr hs 2 rfl rfl rfl (cs' := cI .i64 (IntKind.wrap .i64 (zz.2.1 + 1))) rfl rfl fun st hs => ?_
 refine rn 0 rfl ?_
 refine W.o (l1 rfl (hs.g 2 rfl) rfl) ?_
 refine rn 1 rfl ?_
 refine ci hF rfl (fun c_1 hF => ?_) (fun c_1 hF => ?_)
 · refine rn 0 rfl ?_
   refine sr hs 1 rfl rfl rfl (cs' := cI .i64 3) rfl rfl fun st hs => ?_
   refine rj 0 1 rfl ?_
   cases hF
   exact rdR hs (fun st hs => hK st hs)
 · refine rn 0 rfl ?_
   cases hF
   exact rdN hs (fun st hs => hK st hs)
inductive St50 where
 | p1 (n : T27) (t8_ : T27) (t2_ : Int) (count : Int)
noncomputable def G50 : St50 → Option Int | .p1 n t8_ t2_ count => (F81 (B50_1 n t8_) t8_ (t2_, count, 0) >>= fun r_5 => (if r_5.2.2 = 0 then (F68 n true 0 (none : Sl Bool) >>= fun r_12 => (if (!r_12.1) = true then (some 90) else (some 0))) else (if r_5.2.2 = 1 then (some r_5.1) else none)))
def M50 (x : St50) (r : Int) : Prop := match x with | .p1 n t8_ t2_ count => ∀ (tm : Fr) (st : Store) (io0 : Nat) (io1 : Nat), Frm tm [(1, .dptr (c27 n)), (2, .ptr io0 0), (3, .ptr io1 0), (8, .fn 81 [.dptr [.dptr (c27 t8_)]])] → SH st [pt io0 (.cells (cI .i64 t2_)), pt io1 (.cells (cI .i64 count))] → W (X50 r) [.code C50_9, .blk 0, .code C50_21] tm st
theorem w50 : ∀ (x : St50) (r : Int), G50 x = some r → M50 x r := by
 intro x r hF
 cases x with
 | p1 n t8_ t2_ count =>
  dsimp only [G50] at hF
  intro tm st io0 io1 hf hs
  obtain ⟨r_5, g_6, hF⟩ := bind_some hF
  refine rg (N := 19) (fr := []) rfl hs hf.2.2.2.1 (by kernel_rfl) fun ca cb st iL q1 q2 hs => ?_
  refine d81 (σ := Int × Int × Nat) (H := fun zz => bun [pt iL (.loop 19 [9] ca cb tm (lsW zz.2.2) (ljW [.ret] zz.2.2)), pt io0 (.cells (cI .i64 zz.1)), pt io1 (.cells (cI .i64 zz.2.1))]) (Y := B50_1 n t8_) iL (fun x zz r hB K L st hs hK => b50_1 n t8_ x zz r hB K L iL ca cb tm io0 io1 q1 q2 hf hK st hs) t8_ (t2_, count, 0) _ g_6 _ _ (fun st hs => ?_) _ (SH.bun hs)
  replace hs : SH st ([pt iL (.loop 19 [9] ca cb tm (lsW r_5.2.2) (ljW [.ret] r_5.2.2)), pt io0 (.cells (cI .i64 r_5.1)), pt io1 (.cells (cI .i64 r_5.2.1))] ++ _) := SH.unbun hs
  refine ni hF (fun c_ hF => ?_) (fun c_ hF => ?_)
  · rw [c_] at hs
    refine rgN hs (by decide) fun st hs => ?_
    refine en hf ?_
    refine rn 0 rfl ?_
    refine al hs (cs := cI .i64 0) rfl fun st b_7 hs => ?_
    refine sr hs 0 rfl rfl rfl (cs' := cI .i64 0) rfl rfl fun st hs => ?_
    have hs := hs.rvNil (α := Bool) cB
    refine rn 0 rfl ?_
    refine al hs (cs := [rvV 1 (none : Sl Bool) 0]) rfl fun st b_8 hs => ?_
    refine rn 0 rfl ?_
    refine al hs (cs := cB false) rfl fun st b_10 hs => ?_
    refine sr hs 0 rfl rfl rfl (cs' := cB true) rfl rfl fun st hs => ?_
    refine rn 0 rfl ?_
    refine al hs (cs := [.nilfn]) rfl fun st b_11 hs => ?_
    refine rn 1 rfl ?_
    refine sr hs 0 rfl rfl rfl (cs' := [.fn 68 [.ptr b_10 0, .ptr b_7 0, .ptr b_8 0, .ptr b_11 0]]) rfl rfl fun st hs => ?_
    refine rn 0 rfl ?_
    refine W.o (l1 rfl (hs.g 0 rfl) rfl) ?_
    have hs : SH st (bx88_r b_8 (none : Sl Bool) :: _) := SH.bx1c 0 (hs.p 7 [2, 2, 0, 0, 0, 0, 0] rfl)
    obtain ⟨r_12, g_13, hF⟩ := bind_some hF
    refine cv rfl (by kernel_rfl) (ale rfl) (d68 n true 0 (none : Sl Bool) _ g_13 _ _ b_10 b_7 b_8 b_11 (fun st hs => ?_) _ (hs.p 6 [2, 2, 0, 0, 0, 0] rfl))
    refine rn 0 rfl ?_
    refine W.o (l1 rfl (hs.g 0 rfl) rfl) ?_
    refine rn 1 rfl ?_
    refine ci hF rfl (fun c_14 hF => ?_) (fun c_14 hF => ?_)
    · refine rn 0 rfl ?_
      refine sr hs 4 rfl rfl rfl (cs' := cI .i64 90) rfl rfl fun st hs => ?_
      refine rn 0 rfl ?_
      cases hF
      exact rD (rl_cell1 rfl (hs.g 4 rfl) (LR.whole _ _) rl0) rfl
    · refine rn 0 rfl ?_
      refine sr hs 4 rfl rfl rfl (cs' := cI .i64 0) rfl rfl fun st hs => ?_
      refine rn 0 rfl ?_
      cases hF
      exact rD (rl_cell1 rfl (hs.g 4 rfl) (LR.whole _ _) rl0) rfl
  · refine ni hF (fun c_ hF => ?_) (fun c_ hF => ?_)
    · rw [c_] at hs
      refine rgR (fun _ _ => rfl) hs (by decide) fun st hs => ?_
      refine en hf ?_
      cases hF
      exact eD (rl_cell1 rfl (hs.g 0 rfl) (LR.whole _ _) rl0) rfl
    · cases hF
noncomputable def F50 (n : T27) : Option Int := (F53 n >>= fun r_3 => (G50 (.p1 n r_3 0 0)))
theorem d50 (n : T27) (r : Int) (hF : F50 n = some r) : DFun Tryd.prog gE 50 [v27 n] (AV.int .i64 r) := by
 unfold F50 at hF
 refine bD k50 rfl ?_
 have hs : SH [] [] := SH.nil
 generalize ([] : Store) = st at hs ⊢
 refine rn 0 rfl ?_
 refine W.o (e_boxD (cs := c27 n) rfl (by rw [c27_len]; rfl) (c27_one _)) ?_
 refine al hs (cs := cI .i64 0) rfl fun st b_1 hs => ?_
 refine rn 0 rfl ?_
 refine al hs (cs := cI .i64 0) rfl fun st b_2 hs => ?_
 refine sr hs 0 rfl rfl rfl (cs' := cI .i64 0) rfl rfl fun st hs => ?_
 obtain ⟨r_3, g_4, hF⟩ := bind_some hF
 refine rn 0 rfl ?_
 refine df (d53 n _ g_4) rfl ?_
 refine rj 0 2 rfl ?_
 exact w50 (.p1 n r_3 0 0) _ hF _ _ b_1 b_2 ⟨rfl, rfl, rfl, rfl, trivial⟩ (hs.p 2 [1, 0] rfl)
def C35_1 : ACode := .s (.ops [q 3 (.boxD 9 1), q 4 (.mv (ki 0))]) (.s (.draw [] 0 1 [q 5 (.mv 0), q 6 (.mv 0), q 7 (.nilck 6), q 8 (.faddr 0 7), q 9 (.load1 8), q 10 (.loadN 9 3), q 11 (.bslice 9 1 true [(.int .u8 0), (.int .u64 0), (.int .u64 0), (.int .u64 0), (.int .u64 0), (.int .i64 0), (.int .i64 0), (.int .i64 0), (.int .i64 0)] [(0, (9, 10))] false)] [q 12 (.appR 9 72 9 11), q 13 (.nilck 5), q 14 (.faddr 0 13), q0 (.store 1 14 12)]) (.s (.ops [q 15 (.mv 0), q 16 (.nilck 15), q 17 (.faddr 0 16), q 18 (.load1 17), q 19 (.len 18), q 20 (.binI .sub 19 (ki 1)), q 4 (.mv 20)]) .ret))
def R35 : List RA := [(.tmp 4)]
theorem k35 : compF Tryd.prog (muL [3, 12]) 35 = some ⟨21, C35_1, R35⟩ := by kernel_rfl
noncomputable abbrev X35 (K : AV → Store → Prop) : Cx := cK Tryd.prog gE 21 R35 (isK K) [3, 12]
noncomputable def F35 (c : T71) (x_ : T76) : Option (Int × T71) := (if ((ls c.code).length + (ls (some ([x_] : List T76))).length) * 72 ≤ 140737488355328 then (some (IntKind.wrap .i64 (((ls (sapp c.code (ls (some ([x_] : List T76))))).length : Int) - 1), ({ c with code := sapp c.code (ls (some ([x_] : List T76))) } : T71))) else none)
theorem d35 (c : T71) (x_ : T76) (r : Int × T71) (hF : F35 c x_ = some r) : ∀ (K : AV → Store → Prop) (Ls : List Asn) (iP0 : Nat), (∀ st, SH st (bx71_0r iP0 r.2 :: Ls) → K (AV.int .i64 r.1) st) → ∀ (st : Store), SH st (bx71_0r iP0 c :: Ls) → XCall Tryd.prog gE 35 [.ptr iP0 0, v76 x_] st K := by
 unfold F35 at hF
 intro K Ls iP0 hK  st hs
 refine bS k35 rfl ?_
 refine rn 0 rfl ?_
 refine W.o (e_boxD (cs := c76 x_) rfl rfl rfl) ?_
 obtain ⟨j_1, hs⟩ := SH.bx1o hs
 refine rn 1 rfl ?_
 refine drn hs fun s_2 st h0 hs => ?_
 refine dn 2 rfl ?_
 refine de rfl (e_nilck rfl (h0.g 0 rfl)) ?_
 refine de rfl (e_faddr rfl (h0.g 0 rfl)) ?_
 refine de rfl (l1 rfl (h0.g 0 rfl) rfl) ?_
 refine de rfl (lND (s := c76 x_) rfl rfl rfl) ?_
 refine dbs (f := v76) ([x_] : List T76) hs 0 rfl rfl rfl rfl rfl rfl fun st hs => ?_
 refine dz ?_
 obtain ⟨g_5, hF⟩ := grd_some hF
 refine apV (f := v76) (c := c76) (ys := ls (some ([x_] : List T76))) hs 2 rfl rfl (ae_rd (rd_W (o := (some ([x_] : List T76))) (id := (List.length s_2 + 0)) rfl)) g_5 c76_len (fun _ => rfl) (fun _ => rfl) fun st b_6 hs => ?_
 refine W.o (e_nilck rfl (hs.g 1 rfl)) ?_
 refine W.o (e_faddr rfl (hs.g 1 rfl)) ?_
 refine so hs 1 rfl rfl rfl (rvV_c (es := 9) (o := sapp c.code (ls (some ([x_] : List T76)))) (id := b_6)) rfl (cs' := [rvV 9 (sapp c.code (ls (some ([x_] : List T76)))) b_6] ++ ((cI .i64) (c.slots) ++ ((cI .i64) (c.free)))) rfl rfl fun st hs => ?_
 refine rn 1 rfl ?_
 refine W.o (e_nilck rfl (hs.g 1 rfl)) ?_
 refine W.o (e_faddr rfl (hs.g 1 rfl)) ?_
 refine W.o (l1 rfl (hs.g 1 rfl) rfl) ?_
 refine W.o (e_lenV hs 2 rfl rfl) ?_
 refine rn 2 rfl ?_
 have hs : SH st (bx71_0r iP0 ({ c with code := sapp c.code (ls (some ([x_] : List T76))) } : T71) :: _) := SH.bx1c b_6 (hs.p 3 [1, 1, 0] rfl)
 cases hF
 exact rS (rlt rl0) (hK _ (hs.p 2 [0] rfl)) rfl
def C86_1 : ACode := .s (.ops [q 4 (.mv (.c (.bool false)))]) (.s (.s (.ops [q 5 (.mv 0), q 6 (.nilck 5), q 7 (.faddr 0 6), q 8 (.load1 7), q 9 (.mv 1), q 10 (.iaddrL 1 8 9), q 11 (.load1 10)]) (.cond 11 (.s (.ops [q 4 (.mv (.c (.bool false)))]) .ret) .skip)) (.s (.ops [q 12 (.mv 0), q 13 (.nilck 12), q 14 (.faddr 0 13), q 15 (.load1 14), q 16 (.mv 1), q 17 (.iaddrL 1 15 16), q0 (.store 1 17 (.c (.bool true)))]) (.s (.ops [q 18 (.mv 0), q 19 (.mv 0), q 20 (.nilck 19), q 21 (.faddr 1 20), q 22 (.load1 21), q 23 (.mv 1), q 24 (.bslice 1 1 false [(.int .i64 0)] [(0, (1, 23))] false), q 25 (.app 1 8 22 24), q 26 (.nilck 18), q 27 (.faddr 1 26), q0 (.store 1 27 25)]) (.s (.ops [q 4 (.mv (.c (.bool true)))]) .ret))))
def R86 : List RA := [(.tmp 4)]
theorem k86 : compF Tryd.prog (muL []) 86 = some ⟨28, C86_1, R86⟩ := by kernel_rfl
noncomputable abbrev X86 (K : AV → Store → Prop) : Cx := cK Tryd.prog gE 28 R86 (isK K)
noncomputable def F86 (s : T128) (i : Int) : Option (Bool × T128) := (ix (ls s.in_) i >>= fun v_3 => (if v_3 = true then (some (false, s)) else (ix (ls s.in_) i >>= fun v_6 => (if ((ls s.list).length + (ls (some ([i] : List Int))).length) * 8 ≤ 140737488355328 then (some (true, ({ s with in_ := (vset s.in_ i true), list := sapp s.list (ls (some ([i] : List Int))) } : T128))) else none))))
theorem d86 (s : T128) (i : Int) (r : Bool × T128) (hF : F86 s i = some r) : ∀ (K : AV → Store → Prop) (Ls : List Asn) (iP0 : Nat), (∀ st, SH st (bx128_0r1o iP0 r.2 :: Ls) → K (AV.bool r.1) st) → ∀ (st : Store), SH st (bx128_0r1o iP0 s :: Ls) → XCall Tryd.prog gE 86 [.ptr iP0 0, AV.int .i64 i] st K := by
 unfold F86 at hF
 intro K Ls iP0 hK  st hs
 refine bS k86 rfl ?_
 obtain ⟨j_1, j_2, hs⟩ := SH.bx2o hs
 refine rn 2 rfl ?_
 refine W.o (e_nilck rfl (hs.g 0 rfl)) ?_
 refine W.o (e_faddr rfl (hs.g 0 rfl)) ?_
 refine W.o (l1 rfl (hs.g 0 rfl) rfl) ?_
 obtain ⟨v_3, g_4, hF⟩ := bind_some hF
 refine rn 1 rfl ?_
 refine W.o (e_iaddrV hs 1 rfl rfl rfl g_4) ?_
 refine W.o (e_load1 rfl (SH.gv hs 1 rfl g_4) (LR.cast (LR.comp (LR.whole _ _) (lrV_get cB_len g_4)) (by omega))) ?_
 refine rn 0 rfl ?_
 refine ci hF rfl (fun c_5 hF => ?_) (fun c_5 hF => ?_)
 · refine rn 1 rfl ?_
   have hs : SH st (bx128_0r1o iP0 s :: _) := SH.bx2c j_1 j_2 (hs.p 3 [0, 0, 0] rfl)
   cases hF
   exact rS (rlt rl0) (hK _ hs) rfl
 · refine rn 1 rfl ?_
   refine W.o (e_nilck rfl (hs.g 0 rfl)) ?_
   refine W.o (e_faddr rfl (hs.g 0 rfl)) ?_
   refine W.o (l1 rfl (hs.g 0 rfl) rfl) ?_
   obtain ⟨v_6, g_7, hF⟩ := bind_some hF
   refine rn 1 rfl ?_
   refine W.o (e_iaddrV hs 1 rfl rfl rfl g_7) ?_
   refine slv hs 1 rfl rfl g_7 rfl (LR.cast (LR.comp (LR.whole _ _) (lrV_set cB_len g_7 true)) (by omega)) (cB_len _) rfl (cB_len _) (cB_one _) rfl fun st hs => ?_
   have hs := hs.cong 0 rfl (cs' := [rvV 1 (vset s.in_ i true) j_1] ++ ([ownV 1 (AV.int .i64) s.list j_2])) (by simp only [rvV_vset]) rfl
   refine rn 2 rfl ?_
   refine W.o (e_nilck rfl (hs.g 0 rfl)) ?_
   refine W.o (e_faddr rfl (hs.g 0 rfl)) ?_
   refine W.o (l1 rfl (hs.g 0 rfl) rfl) ?_
   refine rn 1 rfl ?_
   refine bs (f := AV.int .i64) ([i] : List Int) hs rfl rfl rfl rfl fun st b_8 hs => ?_
   obtain ⟨g_9, hF⟩ := grd_some hF
   refine ap (ys := ls (some ([i] : List Int))) hs 3 rfl rfl (ae_rd (rd_W (o := (some ([i] : List Int))) (id := b_8) rfl)) g_9 (fun _ => rfl) fun st b_10 hs => ?_
   refine W.o (e_nilck rfl (hs.g 1 rfl)) ?_
   refine W.o (e_faddr rfl (hs.g 1 rfl)) ?_
   refine so hs 1 rfl rfl rfl ownV_c rfl (cs' := [rvV 1 (vset s.in_ i true) j_1] ++ ([ownV 1 (AV.int .i64) (sapp s.list (ls (some ([i] : List Int)))) b_10])) rfl rfl fun st hs => ?_
   refine rn 1 rfl ?_
   have hs : SH st (bx128_0r1o iP0 ({ s with in_ := (vset s.in_ i true), list := sapp s.list (ls (some ([i] : List Int))) } : T128) :: _) := SH.bx2c j_1 b_10 (hs.p 4 [1, 1, 1, 0] rfl)
   cases hF
   exact rS (rlt rl0) (hK _ (hs.p 2 [0] rfl)) rfl
def C33_1 : ACode := .s (.ops [q 1 (.boxD 9 0), q 2 (.mv (ki 0)), q 3 (.mv (ki 0))]) (.s (.s (.ops [q 6 (.loadN 9 1), qc 7 50 [6], q 4 (.mv 7)]) (.s (.ops [q 8 (.mv 4), q 9 (.binI .neq 8 (ki 0))]) (.cond 9 (.s (.ops [q 10 (.mv 4), q 2 (.mv (ki 0)), q 3 (.mv 10)]) .ret) .skip))) (.s (.s (.ops [q 11 (.loadN 9 1), qc 12 51 [11], q 5 (.mv 12)]) (.s (.ops [q 13 (.mv 5), q 14 (.binI .lss 13 (ki 16384))]) (.cond 14 (.s (.ops [q 15 (.mv 5), q 16 (.binI .add 15 (ki 1)), q 2 (.mv 16), q 3 (.mv (ki 0))]) .ret) .skip))) (.s (.ops [q 2 (.mv (ki 0)), q 3 (.mv (ki 3))]) .ret)))
def R33 : List RA := [(.tmp 2), (.tmp 3)]
theorem k33 : compF Tryd.prog (muL [1]) 33 = some ⟨17, C33_1, R33⟩ := by kernel_rfl
noncomputable abbrev X33 (r : Int × Int) : Cx := cD Tryd.prog gE 17 R33 (AV.tup [AV.int .i64 r.1, AV.int .i64 r.2]) [1]
noncomputable def F33 (n : T27) : Option (Int × Int) := (F50 n >>= fun r_1 => (if (r_1 != 0) = true then (some (0, r_1)) else (F51 n >>= fun r_4 => (if (decide (r_4 < 16384)) = true then (some (IntKind.wrap .i64 (r_4 + 1), 0)) else (some (0, 3))))))
theorem d33 (n : T27) (r : Int × Int) (hF : F33 n = some r) : DFun Tryd.prog gE 33 [v27 n] (AV.tup [AV.int .i64 r.1, AV.int .i64 r.2]) := by
 unfold F33 at hF
 refine bD k33 rfl ?_
 have hs : SH [] [] := SH.nil
 generalize ([] : Store) = st at hs ⊢
 refine rn 0 rfl ?_
 refine W.o (e_boxD (cs := c27 n) rfl (by rw [c27_len]; rfl) (c27_one _)) ?_
 refine rn 2 rfl ?_
 refine W.o (e_loadND rfl (DP.refl _) (c27_len _)) ?_
 obtain ⟨r_1, g_2, hF⟩ := bind_some hF
 refine df (d50 n _ g_2) rfl ?_
 refine rn 3 rfl ?_
 refine ci hF rfl (fun c_3 hF => ?_) (fun c_3 hF => ?_)
 · refine rn 3 rfl ?_
   cases hF
   exact rD (rlt (rlt rl0)) rfl
 · refine rn 0 rfl ?_
   refine W.o (e_loadND rfl (DP.refl _) (c27_len _)) ?_
   obtain ⟨r_4, g_5, hF⟩ := bind_some hF
   refine df (d51 n _ g_5) rfl ?_
   refine rn 3 rfl ?_
   refine ci hF rfl (fun c_6 hF => ?_) (fun c_6 hF => ?_)
   · refine rn 4 rfl ?_
     cases hF
     exact rD (rlt (rlt rl0)) rfl
   · refine rn 2 rfl ?_
     cases hF
     exact rD (rlt (rlt rl0)) rfl
def C52_1 : ACode := .s (.ops [q 0 (.alloc [.nilfn, .nilfn, .nilfn, .nilfn, .nilfn, .nilfn, .nilfn, .nilfn, .nilfn, .nilfn])]) (.s (.ops [q 1 (.build [.nilfn, .nilfn, .nilfn, .nilfn, .nilfn, .nilfn, .nilfn, .nilfn, .nilfn, .nilfn] [(1, (1, (.c (.fn 72 [])))), (2, (1, (.c (.fn 73 [])))), (8, (1, (.c (.fn 74 [])))), (9, (1, (.c (.fn 75 [])))), (7, (1, (.c (.fn 76 [])))), (3, (1, (.c (.fn 77 [])))), (6, (1, (.c (.fn 78 [])))), (4, (1, (.c (.fn 79 [])))), (5, (1, (.c (.fn 80 []))))]), q0 (.store 10 0 1)]) .ret)
def R52 : List RA := [(.cellN 0 10)]
theorem k52 : compF Tryd.prog (muL []) 52 = some ⟨2, C52_1, R52⟩ := by kernel_rfl
noncomputable abbrev X52 (r : Unit) : Cx := cD Tryd.prog gE 2 R52 (.agg [.nilfn, .fn 72 [], .fn 73 [], .fn 77 [], .fn 79 [], .fn 80 [], .fn 78 [], .fn 76 [], .fn 74 [], .fn 75 []])
noncomputable def F52  : Option Unit := (some ())
theorem d52  (r : Unit) (hF : F52 = some r) : DFun Tryd.prog gE 52 [] (.agg [.nilfn, .fn 72 [], .fn 73 [], .fn 77 [], .fn 79 [], .fn 80 [], .fn 78 [], .fn 76 [], .fn 74 [], .fn 75 []]) := by
 unfold F52 at hF
 refine bD k52 rfl ?_
 have hs : SH [] [] := SH.nil
 generalize ([] : Store) = st at hs ⊢
 refine rn 0 rfl ?_
 refine al hs (cs := [.nilfn, .nilfn, .nilfn, .nilfn, .nilfn, .nilfn, .nilfn, .nilfn, .nilfn, .nilfn]) rfl fun st b_1 hs => ?_
 refine rn 0 rfl ?_
 refine W.o (bR (cs := [.nilfn, .fn 72 [], .fn 73 [], .fn 77 [], .fn 79 [], .fn 80 [], .fn 78 [], .fn 76 [], .fn 74 [], .fn 75 []]) rfl rfl) ?_
 refine sr hs 0 rfl rfl rfl (cs' := [.nilfn, .fn 72 [], .fn 73 [], .fn 77 [], .fn 79 [], .fn 80 [], .fn 78 [], .fn 76 [], .fn 74 [], .fn 75 []]) rfl rfl fun st hs => ?_
 refine rn 0 rfl ?_
 cases hF
 exact rD (rl_cellN rfl (hs.g 0 rfl) (LR.whole _ _) rfl rl0) rfl
def C72_1 : ACode := .ops [q 3 (.boxD 9 1)]
def R72 : List RA := []
theorem k72 : compF Tryd.prog (muL [3]) 72 = some ⟨4, C72_1, R72⟩ := by kernel_rfl
noncomputable abbrev X72 (K : AV → Store → Prop) : Cx := cK Tryd.prog gE 4 R72 (isK K) [3]
noncomputable def F72 (c : T71) (n : T27) : Option T71 := (some c)
theorem d72 (c : T71) (n : T27) (r : T71) (hF : F72 c n = some r) : ∀ (K : AV → Store → Prop) (Ls : List Asn) (iP0 : Nat), (∀ st, SH st (bx71_0r iP0 r :: Ls) → K (AV.tup []) st) → ∀ (st : Store), SH st (bx71_0r iP0 c :: Ls) → XCall Tryd.prog gE 72 [.ptr iP0 0, v27 n] st K := by
 unfold F72 at hF
 intro K Ls iP0 hK  st hs
 refine bS k72 rfl ?_
 refine rn 0 rfl ?_
 refine W.o (e_boxD (cs := c27 n) rfl (by rw [c27_len]; rfl) (c27_one _)) ?_
 refine rn 0 rfl ?_
 cases hF
 exact eS rl0 (hK _ hs) rfl
def C73_1 : ACode := .s (.ops [q 3 (.boxD 9 1)]) (.ops [q 4 (.mv 0), q 5 (.faddr 1 3), q 6 (.loadN 4 5), q 7 (.build [(.int .u8 0), (.int .u64 0), (.int .u64 0), (.int .u64 0), (.int .u64 0), (.int .i64 0), (.int .i64 0), (.int .i64 0), (.int .i64 0)] [(0, (1, (ku 1))), (1, (4, 6))]), qc 8 35 [4, 7]])
def R73 : List RA := []
theorem k73 : compF Tryd.prog (muL [3]) 73 = some ⟨9, C73_1, R73⟩ := by kernel_rfl
noncomputable abbrev X73 (K : AV → Store → Prop) : Cx := cK Tryd.prog gE 9 R73 (isK K) [3]
noncomputable def F73 (c : T71) (n : T27) : Option T71 := (F35 c ({ Kind := 1, Set := n.Set, To := 0, Group := 0, Last := 0, Slot := 0 } : T76) >>= fun r_1 => (some r_1.2))
theorem d73 (c : T71) (n : T27) (r : T71) (hF : F73 c n = some r) : ∀ (K : AV → Store → Prop) (Ls : List Asn) (iP0 : Nat), (∀ st, SH st (bx71_0r iP0 r :: Ls) → K (AV.tup []) st) → ∀ (st : Store), SH st (bx71_0r iP0 c :: Ls) → XCall Tryd.prog gE 73 [.ptr iP0 0, v27 n] st K := by
 unfold F73 at hF
 intro K Ls iP0 hK  st hs
 refine bS k73 rfl ?_
 refine rn 0 rfl ?_
 refine W.o (e_boxD (cs := c27 n) rfl (by rw [c27_len]; rfl) (c27_one _)) ?_
 refine rn 1 rfl ?_
 refine W.o (e_faddrD rfl) ?_
 refine W.o (e_loadND rfl (DP.fld (DP.refl _) (lrg27_Set n)) (c24_len _)) ?_
 refine W.o (bR (cs := c76 ({ Kind := 1, Set := n.Set, To := 0, Group := 0, Last := 0, Slot := 0 } : T76)) rfl rfl) ?_
 obtain ⟨r_1, g_2, hF⟩ := bind_some hF
 refine cl (ale rfl) (d35 c ({ Kind := 1, Set := n.Set, To := 0, Group := 0, Last := 0, Slot := 0 } : T76) _ g_2 _ _ iP0 (fun st hs => ?_) _ hs)
 refine rn 0 rfl ?_
 cases hF
 exact eS rl0 (hK _ hs) rfl
def C74_1 : ACode := .s (.ops [q 3 (.boxD 9 1)]) (.ops [q 4 (.mv 0), q 5 (.build [(.int .u8 0), (.int .u64 0), (.int .u64 0), (.int .u64 0), (.int .u64 0), (.int .i64 0), (.int .i64 0), (.int .i64 0), (.int .i64 0)] [(0, (1, (ku 10)))]), qc 6 35 [4, 5]])
def R74 : List RA := []
theorem k74 : compF Tryd.prog (muL [3]) 74 = some ⟨7, C74_1, R74⟩ := by kernel_rfl
noncomputable abbrev X74 (K : AV → Store → Prop) : Cx := cK Tryd.prog gE 7 R74 (isK K) [3]
noncomputable def F74 (c : T71) (n : T27) : Option T71 := (F35 c ({ Kind := 10, Set := (Arr.rep 4 (0 : Int)), To := 0, Group := 0, Last := 0, Slot := 0 } : T76) >>= fun r_1 => (some r_1.2))
theorem d74 (c : T71) (n : T27) (r : T71) (hF : F74 c n = some r) : ∀ (K : AV → Store → Prop) (Ls : List Asn) (iP0 : Nat), (∀ st, SH st (bx71_0r iP0 r :: Ls) → K (AV.tup []) st) → ∀ (st : Store), SH st (bx71_0r iP0 c :: Ls) → XCall Tryd.prog gE 74 [.ptr iP0 0, v27 n] st K := by
 unfold F74 at hF
 intro K Ls iP0 hK  st hs
 refine bS k74 rfl ?_
 refine rn 0 rfl ?_
 refine W.o (e_boxD (cs := c27 n) rfl (by rw [c27_len]; rfl) (c27_one _)) ?_
 refine rn 1 rfl ?_
 refine W.o (bR (cs := c76 ({ Kind := 10, Set := (Arr.rep 4 (0 : Int)), To := 0, Group := 0, Last := 0, Slot := 0 } : T76)) rfl rfl) ?_
 obtain ⟨r_1, g_2, hF⟩ := bind_some hF
 refine cl (ale rfl) (d35 c ({ Kind := 10, Set := (Arr.rep 4 (0 : Int)), To := 0, Group := 0, Last := 0, Slot := 0 } : T76) _ g_2 _ _ iP0 (fun st hs => ?_) _ hs)
 refine rn 0 rfl ?_
 cases hF
 exact eS rl0 (hK _ hs) rfl
def C75_1 : ACode := .s (.ops [q 3 (.boxD 9 1)]) (.ops [q 4 (.mv 0), q 5 (.build [(.int .u8 0), (.int .u64 0), (.int .u64 0), (.int .u64 0), (.int .u64 0), (.int .i64 0), (.int .i64 0), (.int .i64 0), (.int .i64 0)] [(0, (1, (ku 11)))]), qc 6 35 [4, 5]])
def R75 : List RA := []
theorem k75 : compF Tryd.prog (muL [3]) 75 = some ⟨7, C75_1, R75⟩ := by kernel_rfl
noncomputable abbrev X75 (K : AV → Store → Prop) : Cx := cK Tryd.prog gE 7 R75 (isK K) [3]
noncomputable def F75 (c : T71) (n : T27) : Option T71 := (F35 c ({ Kind := 11, Set := (Arr.rep 4 (0 : Int)), To := 0, Group := 0, Last := 0, Slot := 0 } : T76) >>= fun r_1 => (some r_1.2))
theorem d75 (c : T71) (n : T27) (r : T71) (hF : F75 c n = some r) : ∀ (K : AV → Store → Prop) (Ls : List Asn) (iP0 : Nat), (∀ st, SH st (bx71_0r iP0 r :: Ls) → K (AV.tup []) st) → ∀ (st : Store), SH st (bx71_0r iP0 c :: Ls) → XCall Tryd.prog gE 75 [.ptr iP0 0, v27 n] st K := by
 unfold F75 at hF
 intro K Ls iP0 hK  st hs
 refine bS k75 rfl ?_
 refine rn 0 rfl ?_
 refine W.o (e_boxD (cs := c27 n) rfl (by rw [c27_len]; rfl) (c27_one _)) ?_
 refine rn 1 rfl ?_
 refine W.o (bR (cs := c76 ({ Kind := 11, Set := (Arr.rep 4 (0 : Int)), To := 0, Group := 0, Last := 0, Slot := 0 } : T76)) rfl rfl) ?_
 obtain ⟨r_1, g_2, hF⟩ := bind_some hF
 refine cl (ale rfl) (d35 c ({ Kind := 11, Set := (Arr.rep 4 (0 : Int)), To := 0, Group := 0, Last := 0, Slot := 0 } : T76) _ g_2 _ _ iP0 (fun st hs => ?_) _ hs)
 refine rn 0 rfl ?_
 cases hF
 exact eS rl0 (hK _ hs) rfl
end Go.Proofs.YtcidnoghoifmmaaDoor
end
section
/-
  Functions of the program's as plain functions.
-/

set_option linter.unusedVariables false
set_option linter.unusedSimpArgs false
set_option maxRecDepth 4000
set_option maxHeartbeats 4000000
namespace Go.Proofs.YtcidnoghoifmmaaDoor
open Go AW
attribute [local irreducible] W WD SH XS XLoop DFun XCall XYield
def C76_1 : ACode := .s (.ops [q 3 (.boxD 9 1)]) (.ops [q 4 (.mv 0), q 5 (.faddr 7 3), q 6 (.load1 5), q 7 (.build [(.int .u8 0), (.int .u64 0), (.int .u64 0), (.int .u64 0), (.int .u64 0), (.int .i64 0), (.int .i64 0), (.int .i64 0), (.int .i64 0)] [(0, (1, (ku 9))), (6, (1, 6))]), qc 8 35 [4, 7]])
def R76 : List RA := []
theorem k76 : compF Tryd.prog (muL [3]) 76 = some ⟨9, C76_1, R76⟩ := by kernel_rfl
noncomputable abbrev X76 (K : AV → Store → Prop) : Cx := cK Tryd.prog gE 9 R76 (isK K) [3]
noncomputable def F76 (c : T71) (n : T27) : Option T71 := (F35 c ({ Kind := 9, Set := (Arr.rep 4 (0 : Int)), To := 0, Group := n.Group, Last := 0, Slot := 0 } : T76) >>= fun r_1 => (some r_1.2))
theorem d76 (c : T71) (n : T27) (r : T71) (hF : F76 c n = some r) : ∀ (K : AV → Store → Prop) (Ls : List Asn) (iP0 : Nat), (∀ st, SH st (bx71_0r iP0 r :: Ls) → K (AV.tup []) st) → ∀ (st : Store), SH st (bx71_0r iP0 c :: Ls) → XCall Tryd.prog gE 76 [.ptr iP0 0, v27 n] st K := by
 unfold F76 at hF
 intro K Ls iP0 hK  st hs
 refine bS k76 rfl ?_
 refine rn 0 rfl ?_
 refine W.o (e_boxD (cs := c27 n) rfl (by rw [c27_len]; rfl) (c27_one _)) ?_
 refine rn 1 rfl ?_
 refine W.o (e_faddrD rfl) ?_
 refine W.o (e_load1D rfl (DP.fld (DP.refl _) (lrg27_Group n))) ?_
 refine W.o (bR (cs := c76 ({ Kind := 9, Set := (Arr.rep 4 (0 : Int)), To := 0, Group := n.Group, Last := 0, Slot := 0 } : T76)) rfl rfl) ?_
 obtain ⟨r_1, g_2, hF⟩ := bind_some hF
 refine cl (ale rfl) (d35 c ({ Kind := 9, Set := (Arr.rep 4 (0 : Int)), To := 0, Group := n.Group, Last := 0, Slot := 0 } : T76) _ g_2 _ _ iP0 (fun st hs => ?_) _ hs)
 refine rn 0 rfl ?_
 cases hF
 exact eS rl0 (hK _ hs) rfl
def C34_1 : ACode := .s (.ops [q 3 (.boxD 9 1)]) (.draw [] 0 0 [q 5 (.faddr 0 3), q 6 (.load1 5), q 8 (.mv 0), q 9 (.loadN 9 3), qc 4 52 [], q 7 (.ixA1 10 1 4 6)] [qf 10 7 [8, 9]])
def R34 : List RA := []
theorem k34 : compF Tryd.prog (muL [3]) 34 = some ⟨11, C34_1, R34⟩ := by kernel_rfl
noncomputable abbrev X34 (K : AV → Store → Prop) : Cx := cK Tryd.prog gE 11 R34 (isK K) [3]
def C77_7 : ACode := .s (.ops [q 10 (.binI .lss 9 8)]) (.s (.cond 10 .skip (.exit 0)) (.s (.block 1 (.s (.ops [q 11 (.iaddrL 9 7 9), q 12 (.loadN 9 11), q 5 (.alloc [(.int .u8 0), (.int .u64 0), (.int .u64 0), (.int .u64 0), (.int .u64 0), (.int .i64 0), (.int .i64 0), (.int .i64 0), .nils]), q0 (.store 9 5 12)]) (.ops [q 13 (.mv 0), q 14 (.loadN 9 5), qc 15 34 [13, 14]]))) (.ops [q 16 (.binI .add 9 (ki 1)), q 9 (.mv 16)])))
def C77_1 : ACode := .s (.ops [q 3 (.boxD 9 1)]) (.s (.ops [q 6 (.faddr 8 3), q 7 (.load1 6), q 8 (.len 7), q 9 (.mv (ki 0))]) (.block 0 (.loop C77_7)))
def R77 : List RA := []
theorem k77 : compF Tryd.prog (muL [3]) 77 = some ⟨17, C77_1, R77⟩ := by kernel_rfl
noncomputable abbrev X77 (K : AV → Store → Prop) : Cx := cK Tryd.prog gE 17 R77 (isK K) [3]
def C78_1 : ACode := .s (.ops [q 3 (.boxD 9 1)]) (.s (.ops [q 4 (.mv 0), q 5 (.faddr 7 3), q 6 (.load1 5), q 7 (.build [(.int .u8 0), (.int .u64 0), (.int .u64 0), (.int .u64 0), (.int .u64 0), (.int .i64 0), (.int .i64 0), (.int .i64 0), (.int .i64 0)] [(0, (1, (ku 4))), (6, (1, 6))]), qc 8 35 [4, 7]]) (.s (.ops [q 9 (.mv 0), q 10 (.faddr 8 3), q 11 (.load1 10), q 12 (.iaddrL 9 11 (ki 0)), q 13 (.loadN 9 12), qc 14 34 [9, 13]]) (.ops [q 15 (.mv 0), q 16 (.faddr 7 3), q 17 (.load1 16), q 18 (.build [(.int .u8 0), (.int .u64 0), (.int .u64 0), (.int .u64 0), (.int .u64 0), (.int .i64 0), (.int .i64 0), (.int .i64 0), (.int .i64 0)] [(0, (1, (ku 5))), (6, (1, 17))]), qc 19 35 [15, 18]])))
def R78 : List RA := []
theorem k78 : compF Tryd.prog (muL [3]) 78 = some ⟨20, C78_1, R78⟩ := by kernel_rfl
noncomputable abbrev X78 (K : AV → Store → Prop) : Cx := cK Tryd.prog gE 20 R78 (isK K) [3]
def C79_20 : ACode := .s (.ops [q 22 (.iaddrL 9 18 20), q 23 (.loadN 9 22), q 7 (.alloc [(.int .u8 0), (.int .u64 0), (.int .u64 0), (.int .u64 0), (.int .u64 0), (.int .i64 0), (.int .i64 0), (.int .i64 0), .nils]), q0 (.store 9 7 23)]) (.s (.ops [q 24 (.mv 0), q 25 (.build [(.int .u8 0), (.int .u64 0), (.int .u64 0), (.int .u64 0), (.int .u64 0), (.int .i64 0), (.int .i64 0), (.int .i64 0), (.int .i64 0)] [(0, (1, (ku 2)))]), qc 26 35 [24, 25], q 8 (.mv 26)]) (.s (.ops [q 27 (.mv 0), q 28 (.loadN 9 7), qc 29 34 [27, 28]]) (.s (.ops [q 30 (.mv 4), q 31 (.mv 0), q 32 (.build [(.int .u8 0), (.int .u64 0), (.int .u64 0), (.int .u64 0), (.int .u64 0), (.int .i64 0), (.int .i64 0), (.int .i64 0), (.int .i64 0)] [(0, (1, (ku 3)))]), qc 33 35 [31, 32], q 34 (.bslice 1 1 false [(.int .i64 0)] [(0, (1, 33))] false), q 35 (.app 1 8 30 34), q 4 (.mv 35)]) (.draw [] 0 0 [q 36 (.mv 0), q 37 (.nilck 36), q 38 (.faddr 0 37), q 39 (.load1 38), q 40 (.mv 8), q 41 (.mv 0), q 42 (.nilck 41), q 43 (.faddr 0 42), q 44 (.load1 43), q 45 (.len 44), q 46 (.iaddrL 9 39 40), q 47 (.faddr 5 46)] [q0 (.store 1 47 45)]))))
def C79_12 : ACode := .s (.ops [q 21 (.binI .lss 20 19)]) (.s (.cond 21 .skip (.exit 0)) (.s (.block 1 C79_20) (.ops [q 48 (.binI .add 20 (ki 1)), q 20 (.mv 48)])))
def C79_36 : ACode := .s (.ops [q 59 (.binI .lss 58 57)]) (.s (.cond 59 .skip (.exit 2)) (.s (.block 3 (.s (.ops [q 60 (.iaddrL 1 56 58), q 61 (.load1 60), q 10 (.mv 61)]) (.draw [] 0 0 [q 62 (.mv 0), q 63 (.nilck 62), q 64 (.faddr 0 63), q 65 (.load1 64), q 66 (.mv 10), q 67 (.mv 0), q 68 (.nilck 67), q 69 (.faddr 0 68), q 70 (.load1 69), q 71 (.len 70), q 72 (.iaddrL 9 65 66), q 73 (.faddr 5 72)] [q0 (.store 1 73 71)]))) (.ops [q 74 (.binI .add 58 (ki 1)), q 58 (.mv 74)])))
def C79_30 : ACode := .s (.ops [q 49 (.mv 0), q 50 (.faddr 8 3), q 51 (.load1 50), q 52 (.mv 5), q 53 (.iaddrL 9 51 52), q 54 (.loadN 9 53), qc 55 34 [49, 54]]) (.s (.ops [q 56 (.mv 4), q 57 (.len 56), q 58 (.mv (ki 0))]) (.block 2 (.loop C79_36)))
def C79_1 : ACode := .s (.ops [q 3 (.boxD 9 1)]) (.s (.ops [q 4 (.mv (.c .nils))]) (.s (.ops [q 11 (.faddr 8 3), q 12 (.load1 11), q 13 (.len 12), q 14 (.binI .sub 13 (ki 1)), q 5 (.mv 14)]) (.s (.s (.ops [q 15 (.faddr 8 3), q 16 (.load1 15), q 17 (.mv 5), q 18 (.slL 9 16 .none (.some 17)), q 19 (.len 18), q 20 (.mv (ki 0))]) (.block 0 (.loop C79_12))) C79_30)))
def R79 : List RA := []
theorem k79 : compF Tryd.prog (muL [3]) 79 = some ⟨75, C79_1, R79⟩ := by kernel_rfl
noncomputable abbrev X79 (K : AV → Store → Prop) : Cx := cK Tryd.prog gE 75 R79 (isK K) [3]
def C80_20 : ACode := .s (.ops [q 24 (.mv 0), q 25 (.nilck 24), q 26 (.faddr 0 25), q 27 (.load1 26), q 28 (.len 27), q 29 (.mv 4), q 30 (.binI .eql 28 29)]) (.cond 30 (.exit 0) .skip)
def C80_8 : ACode := .s (.ops [q 12 (.binI .lss 11 10)]) (.s (.cond 12 .skip (.exit 0)) (.s (.block 1 (.s (.ops [q 13 (.mv 0), q 14 (.nilck 13), q 15 (.faddr 0 14), q 16 (.load1 15), q 17 (.len 16), q 4 (.mv 17)]) (.s (.ops [q 18 (.mv 0), q 19 (.faddr 8 3), q 20 (.load1 19), q 21 (.iaddrL 9 20 (ki 0)), q 22 (.loadN 9 21), qc 23 93 [18, 22, (.c (.bool false))]]) C80_20))) (.ops [q 31 (.binI .add 11 (ki 1)), q 11 (.mv 31)])))
def C80_47 : ACode := .s (.ops [q 66 (.binI .lss 65 64)]) (.s (.cond 66 .skip (.exit 2)) (.s (.block 3 (.s (.ops [q 67 (.mv 6), q 68 (.mv 0), q 69 (.build [(.int .u8 0), (.int .u64 0), (.int .u64 0), (.int .u64 0), (.int .u64 0), (.int .i64 0), (.int .i64 0), (.int .i64 0), (.int .i64 0)] [(0, (1, (ku 2)))]), qc 70 35 [68, 69], q 71 (.bslice 1 1 false [(.int .i64 0)] [(0, (1, 70))] false), q 72 (.app 1 8 67 71), q 6 (.mv 72)]) (.ops [q 73 (.mv 0), q 74 (.faddr 8 3), q 75 (.load1 74), q 76 (.iaddrL 9 75 (ki 0)), q 77 (.loadN 9 76), qc 78 93 [73, 77, (.c (.bool true))]]))) (.ops [q 79 (.binI .add 65 (ki 1)), q 65 (.mv 79)])))
def C80_63 : ACode := .s (.ops [q 83 (.binI .lss 82 81)]) (.s (.cond 83 .skip (.exit 4)) (.s (.block 5 (.s (.ops [q 84 (.iaddrL 1 80 82), q 85 (.load1 84), q 8 (.mv 85)]) (.draw [] 0 0 [q 86 (.mv 0), q 87 (.nilck 86), q 88 (.faddr 0 87), q 89 (.load1 88), q 90 (.mv 8), q 91 (.mv 0), q 92 (.nilck 91), q 93 (.faddr 0 92), q 94 (.load1 93), q 95 (.len 94), q 96 (.iaddrL 9 89 90), q 97 (.faddr 5 96)] [q0 (.store 1 97 95)]))) (.ops [q 98 (.binI .add 82 (ki 1)), q 82 (.mv 98)])))
def C80_59 : ACode := .s (.ops [q 80 (.mv 6), q 81 (.len 80), q 82 (.mv (ki 0))]) (.block 4 (.loop C80_63))
def C80_26 : ACode := .s (.s (.ops [q 32 (.faddr 6 3), q 33 (.load1 32), q 34 (.binI .eql 33 (ki (-1)))]) (.cond 34 (.s (.ops [q 35 (.mv 0), q 36 (.build [(.int .u8 0), (.int .u64 0), (.int .u64 0), (.int .u64 0), (.int .u64 0), (.int .i64 0), (.int .i64 0), (.int .i64 0), (.int .i64 0)] [(0, (1, (ku 2)))]), qc 37 35 [35, 36], q 5 (.mv 37)]) (.s (.ops [q 38 (.mv 0), q 39 (.faddr 8 3), q 40 (.load1 39), q 41 (.iaddrL 9 40 (ki 0)), q 42 (.loadN 9 41), qc 43 93 [38, 42, (.c (.bool true))]]) (.s (.ops [q 44 (.mv 0), q 45 (.mv 5), q 46 (.build [(.int .u8 0), (.int .u64 0), (.int .u64 0), (.int .u64 0), (.int .u64 0), (.int .i64 0), (.int .i64 0), (.int .i64 0), (.int .i64 0)] [(0, (1, (ku 3))), (5, (1, 45))]), qc 47 35 [44, 46]]) (.s (.draw [] 0 0 [q 48 (.mv 0), q 49 (.nilck 48), q 50 (.faddr 0 49), q 51 (.load1 50), q 52 (.mv 5), q 53 (.mv 0), q 54 (.nilck 53), q 55 (.faddr 0 54), q 56 (.load1 55), q 57 (.len 56), q 58 (.iaddrL 9 51 52), q 59 (.faddr 5 58)] [q0 (.store 1 59 57)]) .ret)))) .skip)) (.s (.ops [q 6 (.mv (.c .nils))]) (.s (.s (.ops [q 60 (.faddr 6 3), q 61 (.load1 60), q 62 (.faddr 5 3), q 63 (.load1 62), q 64 (.binI .sub 61 63), q 65 (.mv (ki 0))]) (.block 2 (.loop C80_47))) C80_59))
def C80_1 : ACode := .s (.ops [q 3 (.boxD 9 1)]) (.s (.s (.ops [q 9 (.faddr 5 3), q 10 (.load1 9), q 11 (.mv (ki 0))]) (.block 0 (.loop C80_8))) C80_26)
def R80 : List RA := []
theorem k80 : compF Tryd.prog (muL [3]) 80 = some ⟨99, C80_1, R80⟩ := by kernel_rfl
noncomputable abbrev X80 (K : AV → Store → Prop) : Cx := cK Tryd.prog gE 99 R80 (isK K) [3]
def C93_23 : ACode := .s (.ops [q 49 (.mv 0), q 50 (.loadN 9 4), qc 51 34 [49, 50]]) (.s (.ops [q 52 (.mv 2)]) (.cond 52 (.s (.ops [q 53 (.mv 0), q 54 (.nilck 53), q 55 (.faddr 2 54), q 56 (.load1 55), q 57 (.binI .sub 56 (ki 1)), q 58 (.nilck 53), q 59 (.faddr 2 58), q0 (.store 1 59 57)]) (.ops [q 60 (.mv 0), q 61 (.mv 6), q 62 (.build [(.int .u8 0), (.int .u64 0), (.int .u64 0), (.int .u64 0), (.int .u64 0), (.int .i64 0), (.int .i64 0), (.int .i64 0), (.int .i64 0)] [(0, (1, (ku 8))), (8, (1, 61))]), qc 63 35 [60, 62]])) .skip))
def C93_15 : ACode := .s (.s (.ops [q 38 (.loadN 9 4), qc 39 71 [38], q 37 (.mv 39), q 40 (.extract 37 0), q 41 (.extract 37 1), q 7 (.mv 40), q 8 (.mv 41)]) (.s (.ops [q 42 (.mv 7), q 43 (.binI .gtr 42 (ki 0))]) (.cond 43 (.ops [q 44 (.mv 0), q 45 (.mv 7), q 46 (.mv 8), q 47 (.build [(.int .u8 0), (.int .u64 0), (.int .u64 0), (.int .u64 0), (.int .u64 0), (.int .i64 0), (.int .i64 0), (.int .i64 0), (.int .i64 0)] [(0, (1, (ku 6))), (6, (1, 45)), (7, (1, 46))]), qc 48 35 [44, 47]]) .skip))) C93_23
def C93_1 : ACode := .s (.ops [q 4 (.boxD 9 1)]) (.s (.ops [q 9 (.mv 0), q 10 (.nilck 9), q 11 (.faddr 2 10), q 12 (.load1 11), q 6 (.mv 12)]) (.s (.s (.ops [q 13 (.mv 2)]) (.cond 13 (.s (.ops [q 14 (.mv 0), q 15 (.mv 6), q 16 (.build [(.int .u8 0), (.int .u64 0), (.int .u64 0), (.int .u64 0), (.int .u64 0), (.int .i64 0), (.int .i64 0), (.int .i64 0), (.int .i64 0)] [(0, (1, (ku 7))), (8, (1, 15))]), qc 17 35 [14, 16]]) (.s (.ops [q 18 (.mv 0), q 19 (.nilck 18), q 20 (.faddr 2 19), q 21 (.load1 20), q 22 (.binI .add 21 (ki 1)), q 23 (.nilck 18), q 24 (.faddr 2 23), q0 (.store 1 24 22)]) (.draw [] 0 0 [q 25 (.mv 0), q 26 (.mv 0), q 27 (.nilck 26), q 28 (.faddr 1 27), q 29 (.load1 28), q 30 (.mv 0), q 31 (.nilck 30), q 32 (.faddr 2 31), q 33 (.load1 32), q 34 (.max [29, 33]), q 35 (.nilck 25), q 36 (.faddr 1 35)] [q0 (.store 1 36 34)]))) .skip)) C93_15))
def R93 : List RA := []
theorem k93 : compF Tryd.prog (muL [4]) 93 = some ⟨64, C93_1, R93⟩ := by kernel_rfl
noncomputable abbrev X93 (K : AV → Store → Prop) : Cx := cK Tryd.prog gE 64 R93 (isK K) [4]
inductive St34r where
 | e34 (c : T71) (n : T27)
 | e77 (c : T71) (n : T27)
 | p77_1 (t7_ : Sl T27) (t8_ : Int) (t9_ : Int) (c : T71)
 | e78 (c : T71) (n : T27)
 | e79 (c : T71) (n : T27)
 | p79_1 (n : T27) (last : Int) (t18_ : Sl T27) (t19_ : Int) (t20_ : Int) (c : T71) (out : Sl Int)
 | p79_2 (t56_ : Sl Int) (t57_ : Int) (t58_ : Int) (c : T71)
 | e80 (c : T71) (n : T27)
 | p80_1 (n : T27) (t10_ : Int) (t11_ : Int) (c : T71)
 | p80_2 (n : T27) (c : T71)
 | p80_3 (n : T27) (t64_ : Int) (t65_ : Int) (c : T71) (out : Sl Int)
 | p80_4 (t80_ : Sl Int) (t81_ : Int) (t82_ : Int) (c : T71)
 | e93 (c : T71) (n : T27) (free : Bool)
 | p93_1 (free : Bool) (n : T27) (slot : Int) (c : T71)
 | p93_2 (free : Bool) (n : T27) (slot : Int) (c : T71)
noncomputable def G34r : St34r → Option T71 | .e34 c n => (F52 >>= fun r_1 => (if n.Kind = 1 then (F72 c n >>= fun r_28 => (some r_28)) else (if n.Kind = 2 then (F73 c n >>= fun r_25 => (some r_25)) else (if n.Kind = 3 then (G34r (.e77 c n) >>= fun r_22 => (some r_22)) else (if n.Kind = 4 then (G34r (.e79 c n) >>= fun r_19 => (some r_19)) else (if n.Kind = 5 then (G34r (.e80 c n) >>= fun r_16 => (some r_16)) else (if n.Kind = 6 then (G34r (.e78 c n) >>= fun r_13 => (some r_13)) else (if n.Kind = 7 then (F76 c n >>= fun r_10 => (some r_10)) else (if n.Kind = 8 then (F74 c n >>= fun r_7 => (some r_7)) else (if n.Kind = 9 then (F75 c n >>= fun r_4 => (some r_4)) else none)))))))))) | .e77 c n => (G34r (.p77_1 n.Kids ((ls n.Kids).length : Int) 0 c)) | .p77_1 t7_ t8_ t9_ c => (if (decide (t9_ < t8_)) = true then (ix (ls t7_) t9_ >>= fun v_2 => (G34r (.e34 c v_2) >>= fun r_5 => (G34r (.p77_1 t7_ t8_ (IntKind.wrap .i64 (t9_ + 1)) r_5)))) else (some c)) | .e78 c n => (F35 c ({ Kind := 4, Set := (Arr.rep 4 (0 : Int)), To := 0, Group := n.Group, Last := 0, Slot := 0 } : T76) >>= fun r_1 => (ix (ls n.Kids) 0 >>= fun v_3 => (G34r (.e34 r_1.2 v_3) >>= fun r_5 => (F35 r_5 ({ Kind := 5, Set := (Arr.rep 4 (0 : Int)), To := 0, Group := n.Group, Last := 0, Slot := 0 } : T76) >>= fun r_7 => (some r_7.2))))) | .e79 c n => (scut n.Kids 0 (IntKind.wrap .i64 (((ls n.Kids).length : Int) - 1)) >>= fun w_1 => (G34r (.p79_1 n (IntKind.wrap .i64 (((ls n.Kids).length : Int) - 1)) w_1 ((ls w_1).length : Int) 0 c none))) | .p79_1 n last t18_ t19_ t20_ c out => (if (decide (t20_ < t19_)) = true then (ix (ls t18_) t20_ >>= fun v_5 => (F35 c ({ Kind := 2, Set := (Arr.rep 4 (0 : Int)), To := 0, Group := 0, Last := 0, Slot := 0 } : T76) >>= fun r_8 => (G34r (.e34 r_8.2 v_5) >>= fun r_10 => (F35 r_10 ({ Kind := 3, Set := (Arr.rep 4 (0 : Int)), To := 0, Group := 0, Last := 0, Slot := 0 } : T76) >>= fun r_12 => (if ((ls out).length + (ls (some ([r_12.1] : List Int))).length) * 8 ≤ 140737488355328 then (ix (ls r_12.2.code) r_8.1 >>= fun v_18 => (G34r (.p79_1 n last t18_ t19_ (IntKind.wrap .i64 (t20_ + 1)) ({ r_12.2 with code := (vset r_12.2.code r_8.1 ({ v_18 with To := ((ls r_12.2.code).length : Int) } : T76)) } : T71) (sapp out (ls (some ([r_12.1] : List Int))))))) else none))))) else (ix (ls n.Kids) last >>= fun v_20 => (G34r (.e34 c v_20) >>= fun r_22 => (G34r (.p79_2 out ((ls out).length : Int) 0 r_22))))) | .p79_2 t56_ t57_ t58_ c => (if (decide (t58_ < t57_)) = true then (ix (ls t56_) t58_ >>= fun v_25 => (ix (ls c.code) v_25 >>= fun v_28 => (G34r (.p79_2 t56_ t57_ (IntKind.wrap .i64 (t58_ + 1)) ({ c with code := (vset c.code v_25 ({ v_28 with To := ((ls c.code).length : Int) } : T76)) } : T71))))) else (some c)) | .e80 c n => (G34r (.p80_1 n n.Min 0 c)) | .p80_1 n t10_ t11_ c => (if (decide (t11_ < t10_)) = true then (ix (ls n.Kids) 0 >>= fun v_3 => (G34r (.e93 c v_3 false) >>= fun r_5 => (if (((ls r_5.code).length : Int) == ((ls c.code).length : Int)) = true then (G34r (.p80_2 n r_5)) else (G34r (.p80_1 n t10_ (IntKind.wrap .i64 (t11_ + 1)) r_5))))) else (G34r (.p80_2 n c))) | .p80_2 n c => (if (n.Max == (-1)) = true then (F35 c ({ Kind := 2, Set := (Arr.rep 4 (0 : Int)), To := 0, Group := 0, Last := 0, Slot := 0 } : T76) >>= fun r_10 => (ix (ls n.Kids) 0 >>= fun v_12 => (G34r (.e93 r_10.2 v_12 true) >>= fun r_14 => (F35 r_14 ({ Kind := 3, Set := (Arr.rep 4 (0 : Int)), To := r_10.1, Group := 0, Last := 0, Slot := 0 } : T76) >>= fun r_16 => (ix (ls r_16.2.code) r_10.1 >>= fun v_19 => (some ({ r_16.2 with code := (vset r_16.2.code r_10.1 ({ v_19 with To := ((ls r_16.2.code).length : Int) } : T76)) } : T71))))))) else (G34r (.p80_3 n (IntKind.wrap .i64 (n.Max - n.Min)) 0 c none))) | .p80_3 n t64_ t65_ c out => (if (decide (t65_ < t64_)) = true then (F35 c ({ Kind := 2, Set := (Arr.rep 4 (0 : Int)), To := 0, Group := 0, Last := 0, Slot := 0 } : T76) >>= fun r_23 => (if ((ls out).length + (ls (some ([r_23.1] : List Int))).length) * 8 ≤ 140737488355328 then (ix (ls n.Kids) 0 >>= fun v_28 => (G34r (.e93 r_23.2 v_28 true) >>= fun r_30 => (G34r (.p80_3 n t64_ (IntKind.wrap .i64 (t65_ + 1)) r_30 (sapp out (ls (some ([r_23.1] : List Int)))))))) else none)) else (G34r (.p80_4 out ((ls out).length : Int) 0 c))) | .p80_4 t80_ t81_ t82_ c => (if (decide (t82_ < t81_)) = true then (ix (ls t80_) t82_ >>= fun v_33 => (ix (ls c.code) v_33 >>= fun v_36 => (G34r (.p80_4 t80_ t81_ (IntKind.wrap .i64 (t82_ + 1)) ({ c with code := (vset c.code v_33 ({ v_36 with To := ((ls c.code).length : Int) } : T76)) } : T71))))) else (some c)) | .e93 c n free => (if free = true then (F35 c ({ Kind := 7, Set := (Arr.rep 4 (0 : Int)), To := 0, Group := 0, Last := 0, Slot := c.free } : T76) >>= fun r_3 => (G34r (.p93_1 free n c.free ({ r_3.2 with free := IntKind.wrap .i64 (r_3.2.free + 1), slots := (if (IntKind.wrap .i64 (r_3.2.free + 1)) > r_3.2.slots then (IntKind.wrap .i64 (r_3.2.free + 1)) else r_3.2.slots) } : T71)))) else (G34r (.p93_1 free n c.free c))) | .p93_1 free n slot c => (F71 n >>= fun r_6 => (if (decide (r_6.1 > 0)) = true then (F35 c ({ Kind := 6, Set := (Arr.rep 4 (0 : Int)), To := 0, Group := r_6.1, Last := r_6.2, Slot := 0 } : T76) >>= fun r_9 => (G34r (.p93_2 free n slot r_9.2))) else (G34r (.p93_2 free n slot c)))) | .p93_2 free n slot c => (G34r (.e34 c n) >>= fun r_11 => (if free = true then (F35 ({ r_11 with free := IntKind.wrap .i64 (r_11.free - 1) } : T71) ({ Kind := 8, Set := (Arr.rep 4 (0 : Int)), To := 0, Group := 0, Last := 0, Slot := slot } : T76) >>= fun r_15 => (some r_15.2)) else (some r_11))) partial_fixpoint
def M34r (x : St34r) (r : T71) : Prop := match x with | .e34 c n => ∀ (K : AV → Store → Prop) (Ls : List Asn) (iP0 : Nat), (∀ st, SH st (bx71_0r iP0 r :: Ls) → K (AV.tup []) st) → ∀ (st : Store), SH st (bx71_0r iP0 c :: Ls) → XCall Tryd.prog gE 34 [.ptr iP0 0, v27 n] st K | .e77 c n => ∀ (K : AV → Store → Prop) (Ls : List Asn) (iP0 : Nat), (∀ st, SH st (bx71_0r iP0 r :: Ls) → K (AV.tup []) st) → ∀ (st : Store), SH st (bx71_0r iP0 c :: Ls) → XCall Tryd.prog gE 77 [.ptr iP0 0, v27 n] st K | .p77_1 t7_ t8_ t9_ c => ∀ (K : AV → Store → Prop) (Ls : List Asn) (iP0 : Nat), (∀ st, SH st (bx71_0r iP0 r :: Ls) → K (AV.tup []) st) → ∀ (tm : Fr) (st : Store), Frm tm [(0, .ptr iP0 0), (7, slV 9 v27 t7_), (8, AV.int .i64 t8_), (9, AV.int .i64 t9_)] → SH st (bx71_0r iP0 c :: Ls) → W (X77 K) [.lp C77_7, .blk 0] tm st | .e78 c n => ∀ (K : AV → Store → Prop) (Ls : List Asn) (iP0 : Nat), (∀ st, SH st (bx71_0r iP0 r :: Ls) → K (AV.tup []) st) → ∀ (st : Store), SH st (bx71_0r iP0 c :: Ls) → XCall Tryd.prog gE 78 [.ptr iP0 0, v27 n] st K | .e79 c n => ∀ (K : AV → Store → Prop) (Ls : List Asn) (iP0 : Nat), (∀ st, SH st (bx71_0r iP0 r :: Ls) → K (AV.tup []) st) → ∀ (st : Store), SH st (bx71_0r iP0 c :: Ls) → XCall Tryd.prog gE 79 [.ptr iP0 0, v27 n] st K | .p79_1 n last t18_ t19_ t20_ c out => ∀ (K : AV → Store → Prop) (Ls : List Asn) (iP0 : Nat), (∀ st, SH st (bx71_0r iP0 r :: Ls) → K (AV.tup []) st) → ∀ (tm : Fr) (st : Store) (io1 : Nat), Frm tm [(0, .ptr iP0 0), (3, .dptr (c27 n)), (4, ownV 1 (AV.int .i64) out io1), (5, AV.int .i64 last), (18, slV 9 v27 t18_), (19, AV.int .i64 t19_), (20, AV.int .i64 t20_)] → SH st (bx71_0r iP0 c :: ownA io1 out :: Ls) → W (X79 K) [.lp C79_12, .blk 0, .code C79_30] tm st | .p79_2 t56_ t57_ t58_ c => ∀ (K : AV → Store → Prop) (Ls : List Asn) (iP0 : Nat), (∀ st, SH st (bx71_0r iP0 r :: Ls) → K (AV.tup []) st) → ∀ (tm : Fr) (st : Store), Frm tm [(0, .ptr iP0 0), (56, slV 1 (AV.int .i64) t56_), (57, AV.int .i64 t57_), (58, AV.int .i64 t58_)] → SH st (bx71_0r iP0 c :: Ls) → W (X79 K) [.lp C79_36, .blk 2] tm st | .e80 c n => ∀ (K : AV → Store → Prop) (Ls : List Asn) (iP0 : Nat), (∀ st, SH st (bx71_0r iP0 r :: Ls) → K (AV.tup []) st) → ∀ (st : Store), SH st (bx71_0r iP0 c :: Ls) → XCall Tryd.prog gE 80 [.ptr iP0 0, v27 n] st K | .p80_1 n t10_ t11_ c => ∀ (K : AV → Store → Prop) (Ls : List Asn) (iP0 : Nat), (∀ st, SH st (bx71_0r iP0 r :: Ls) → K (AV.tup []) st) → ∀ (tm : Fr) (st : Store), Frm tm [(0, .ptr iP0 0), (3, .dptr (c27 n)), (10, AV.int .i64 t10_), (11, AV.int .i64 t11_)] → SH st (bx71_0r iP0 c :: Ls) → W (X80 K) [.lp C80_8, .blk 0, .code C80_26] tm st | .p80_2 n c => ∀ (K : AV → Store → Prop) (Ls : List Asn) (iP0 : Nat), (∀ st, SH st (bx71_0r iP0 r :: Ls) → K (AV.tup []) st) → ∀ (tm : Fr) (st : Store), Frm tm [(0, .ptr iP0 0), (3, .dptr (c27 n))] → SH st (bx71_0r iP0 c :: Ls) → W (X80 K) [.code C80_26] tm st | .p80_3 n t64_ t65_ c out => ∀ (K : AV → Store → Prop) (Ls : List Asn) (iP0 : Nat), (∀ st, SH st (bx71_0r iP0 r :: Ls) → K (AV.tup []) st) → ∀ (tm : Fr) (st : Store) (io1 : Nat), Frm tm [(0, .ptr iP0 0), (3, .dptr (c27 n)), (6, ownV 1 (AV.int .i64) out io1), (64, AV.int .i64 t64_), (65, AV.int .i64 t65_)] → SH st (bx71_0r iP0 c :: ownA io1 out :: Ls) → W (X80 K) [.lp C80_47, .blk 2, .code C80_59] tm st | .p80_4 t80_ t81_ t82_ c => ∀ (K : AV → Store → Prop) (Ls : List Asn) (iP0 : Nat), (∀ st, SH st (bx71_0r iP0 r :: Ls) → K (AV.tup []) st) → ∀ (tm : Fr) (st : Store), Frm tm [(0, .ptr iP0 0), (80, slV 1 (AV.int .i64) t80_), (81, AV.int .i64 t81_), (82, AV.int .i64 t82_)] → SH st (bx71_0r iP0 c :: Ls) → W (X80 K) [.lp C80_63, .blk 4] tm st | .e93 c n free => ∀ (K : AV → Store → Prop) (Ls : List Asn) (iP0 : Nat), (∀ st, SH st (bx71_0r iP0 r :: Ls) → K (AV.tup []) st) → ∀ (st : Store), SH st (bx71_0r iP0 c :: Ls) → XCall Tryd.prog gE 93 [.ptr iP0 0, v27 n, AV.bool free] st K | .p93_1 free n slot c => ∀ (K : AV → Store → Prop) (Ls : List Asn) (iP0 : Nat), (∀ st, SH st (bx71_0r iP0 r :: Ls) → K (AV.tup []) st) → ∀ (tm : Fr) (st : Store), Frm tm [(0, .ptr iP0 0), (2, AV.bool free), (4, .dptr (c27 n)), (6, AV.int .i64 slot)] → SH st (bx71_0r iP0 c :: Ls) → W (X93 K) [.code C93_15] tm st | .p93_2 free n slot c => ∀ (K : AV → Store → Prop) (Ls : List Asn) (iP0 : Nat), (∀ st, SH st (bx71_0r iP0 r :: Ls) → K (AV.tup []) st) → ∀ (tm : Fr) (st : Store), Frm tm [(0, .ptr iP0 0), (2, AV.bool free), (4, .dptr (c27 n)), (6, AV.int .i64 slot)] → SH st (bx71_0r iP0 c :: Ls) → W (X93 K) [.code C93_23] tm st
theorem w34r : ∀ (x : St34r) (r : T71), G34r x = some r → M34r x r := by
 refine G34r.partial_correctness M34r ?_
 intro g ih x r hF
 cases x with
 | e34 c n =>
  dsimp only at hF
  intro K Ls iP0 hK  st hs
  refine bS k34 rfl ?_
  refine rn 0 rfl ?_
  refine W.o (e_boxD (cs := c27 n) rfl (by rw [c27_len]; rfl) (c27_one _)) ?_
  refine rn 0 rfl ?_
  have h0 := hs
  refine dr0 ?_
  refine de rfl (e_faddrD rfl) ?_
  refine de rfl (e_load1D rfl (DP.fld (DP.refl _) (lrg27_Kind n))) ?_
  refine dn 1 rfl ?_
  refine de rfl (e_loadND rfl (DP.refl _) (c27_len _)) ?_
  obtain ⟨r_1, g_2, hF⟩ := bind_some hF
  refine ddf (d52 _ g_2) rfl ?_
  refine ni hF (fun c_27 hF => ?_) (fun c_27 hF => ?_)
  · refine de rfl (e_ixT (m := 1) rfl rfl c_27 rfl rfl) ?_
    refine dz ?_
    obtain ⟨r_28, g_29, hF⟩ := bind_some hF
    refine cv rfl (by kernel_rfl) (ale rfl) (d72 c n _ g_29 _ _ iP0 (fun st hs => ?_) _ hs)
    refine rn 0 rfl ?_
    cases hF
    exact eS rl0 (hK _ hs) rfl
  · refine ni hF (fun c_24 hF => ?_) (fun c_24 hF => ?_)
    · refine de rfl (e_ixT (m := 2) rfl rfl c_24 rfl rfl) ?_
      refine dz ?_
      obtain ⟨r_25, g_26, hF⟩ := bind_some hF
      refine cv rfl (by kernel_rfl) (ale rfl) (d73 c n _ g_26 _ _ iP0 (fun st hs => ?_) _ hs)
      refine rn 0 rfl ?_
      cases hF
      exact eS rl0 (hK _ hs) rfl
    · refine ni hF (fun c_21 hF => ?_) (fun c_21 hF => ?_)
      · refine de rfl (e_ixT (m := 3) rfl rfl c_21 rfl rfl) ?_
        refine dz ?_
        obtain ⟨r_22, g_23, hF⟩ := bind_some hF
        refine cv rfl (by kernel_rfl) (ale rfl) (ih (.e77 c n) _ g_23 _ _ iP0 (fun st hs => ?_) _ hs)
        refine rn 0 rfl ?_
        cases hF
        exact eS rl0 (hK _ hs) rfl
      · refine ni hF (fun c_18 hF => ?_) (fun c_18 hF => ?_)
        · refine de rfl (e_ixT (m := 4) rfl rfl c_18 rfl rfl) ?_
          refine dz ?_
          obtain ⟨r_19, g_20, hF⟩ := bind_some hF
          refine cv rfl (by kernel_rfl) (ale rfl) (ih (.e79 c n) _ g_20 _ _ iP0 (fun st hs => ?_) _ hs)
          refine rn 0 rfl ?_
          cases hF
          exact eS rl0 (hK _ hs) rfl
        · refine ni hF (fun c_15 hF => ?_) (fun c_15 hF => ?_)
          · refine de rfl (e_ixT (m := 5) rfl rfl c_15 rfl rfl) ?_
            refine dz ?_
            obtain ⟨r_16, g_17, hF⟩ := bind_some hF
            refine cv rfl (by kernel_rfl) (ale rfl) (ih (.e80 c n) _ g_17 _ _ iP0 (fun st hs => ?_) _ hs)
            refine rn 0 rfl ?_
            cases hF
            exact eS rl0 (hK _ hs) rfl
          · refine ni hF (fun c_12 hF => ?_) (fun c_12 hF => ?_)
            · refine de rfl (e_ixT (m := 6) rfl rfl c_12 rfl rfl) ?_
              refine dz ?_
              obtain ⟨r_13, g_14, hF⟩ := bind_some hF
              refine cv rfl (by kernel_rfl) (ale rfl) (ih (.e78 c n) _ g_14 _ _ iP0 (fun st hs => ?_) _ hs)
              refine rn 0 rfl ?_
              cases hF
              exact eS rl0 (hK _ hs) rfl
            · refine ni hF (fun c_9 hF => ?_) (fun c_9 hF => ?_)
              · refine de rfl (e_ixT (m := 7) rfl rfl c_9 rfl rfl) ?_
                refine dz ?_
                obtain ⟨r_10, g_11, hF⟩ := bind_some hF
                refine cv rfl (by kernel_rfl) (ale rfl) (d76 c n _ g_11 _ _ iP0 (fun st hs => ?_) _ hs)
                refine rn 0 rfl ?_
                cases hF
                exact eS rl0 (hK _ hs) rfl
              · refine ni hF (fun c_6 hF => ?_) (fun c_6 hF => ?_)
                · refine de rfl (e_ixT (m := 8) rfl rfl c_6 rfl rfl) ?_
                  refine dz ?_
                  obtain ⟨r_7, g_8, hF⟩ := bind_some hF
                  refine cv rfl (by kernel_rfl) (ale rfl) (d74 c n _ g_8 _ _ iP0 (fun st hs => ?_) _ hs)
                  refine rn 0 rfl ?_
                  cases hF
                  exact eS rl0 (hK _ hs) rfl
                · refine ni hF (fun c_3 hF => ?_) (fun c_3 hF => ?_)
                  · refine de rfl (e_ixT (m := 9) rfl rfl c_3 rfl rfl) ?_
                    refine dz ?_
                    obtain ⟨r_4, g_5, hF⟩ := bind_some hF
                    refine cv rfl (by kernel_rfl) (ale rfl) (d75 c n _ g_5 _ _ iP0 (fun st hs => ?_) _ hs)
                    refine rn 0 rfl ?_
                    cases hF
                    exact eS rl0 (hK _ hs) rfl
                  · cases hF
 | e77 c n =>
  dsimp only at hF
  intro K Ls iP0 hK  st hs
  refine bS k77 rfl ?_
  refine rn 0 rfl ?_
  refine W.o (e_boxD (cs := c27 n) rfl (by rw [c27_len]; rfl) (c27_one _)) ?_
  refine rn 0 rfl ?_
  refine W.o (e_faddrD rfl) ?_
  refine W.o (e_load1D rfl (DP.fld (DP.refl _) (lrg27_Kids n))) ?_
  refine W.o (e_len (rd_V rfl)) ?_
  refine rn 1 rfl ?_
  exact ih (.p77_1 n.Kids ((ls n.Kids).length : Int) 0 c) _ hF K Ls iP0 hK _ _ ⟨rfl, rfl, rfl, rfl, trivial⟩ hs
 | p77_1 t7_ t8_ t9_ c =>
  dsimp only at hF
  intro K Ls iP0 hK tm st hf hs
  refine en hf ?_
  refine lp ?_
  refine rn 1 rfl ?_
  refine ci hF rfl (fun c_1 hF => ?_) (fun c_1 hF => ?_)
  · obtain ⟨v_2, g_3, hF⟩ := bind_some hF
    refine rn 0 rfl ?_
    refine W.o (e_iaddrL (rd_V rfl) rfl g_3) ?_
    refine W.o (e_loadND rfl (DP.refl _) (c27_len _)) ?_
    refine al hs (cs := c27 ({ Kind := 0, Set := (Arr.rep 4 (0 : Int)), Min := 0, Max := 0, Group := 0, Kids := none } : T27)) rfl fun st b_4 hs => ?_
    refine sl hs 0 rfl rfl (LR.whole _ _) (c27_len _) rfl (c27_len _) (c27_one _) rfl fun st hs => ?_
    refine rn 1 rfl ?_
    refine W.o (e_loadN rfl (hs.g 0 rfl) (LR.whole _ _) (c27_len _)) ?_
    obtain ⟨r_5, g_6, hF⟩ := bind_some hF
    refine cl (ale rfl) (ih (.e34 c v_2) _ g_6 _ _ iP0 (fun st hs => ?_) _ (hs.p 2 [1, 0] rfl))
    refine rn 2 rfl ?_
    exact ih (.p77_1 t7_ t8_ (IntKind.wrap .i64 (t9_ + 1)) r_5) _ hF K Ls iP0 hK _ _ ⟨rfl, rfl, rfl, rfl, trivial⟩ (hs.p 2 [0] rfl)
  · refine rn 0 rfl ?_
    cases hF
    exact eS rl0 (hK _ hs) rfl
 | e78 c n =>
  dsimp only at hF
  intro K Ls iP0 hK  st hs
  refine bS k78 rfl ?_
  refine rn 0 rfl ?_
  refine W.o (e_boxD (cs := c27 n) rfl (by rw [c27_len]; rfl) (c27_one _)) ?_
  refine rn 1 rfl ?_
  refine W.o (e_faddrD rfl) ?_
  refine W.o (e_load1D rfl (DP.fld (DP.refl _) (lrg27_Group n))) ?_
  refine W.o (bR (cs := c76 ({ Kind := 4, Set := (Arr.rep 4 (0 : Int)), To := 0, Group := n.Group, Last := 0, Slot := 0 } : T76)) rfl rfl) ?_
  obtain ⟨r_1, g_2, hF⟩ := bind_some hF
  refine cl (ale rfl) (d35 c ({ Kind := 4, Set := (Arr.rep 4 (0 : Int)), To := 0, Group := n.Group, Last := 0, Slot := 0 } : T76) _ g_2 _ _ iP0 (fun st hs => ?_) _ hs)
  refine rn 1 rfl ?_
  refine W.o (e_faddrD rfl) ?_
  refine W.o (e_load1D rfl (DP.fld (DP.refl _) (lrg27_Kids n))) ?_
  obtain ⟨v_3, g_4, hF⟩ := bind_some hF
  refine W.o (e_iaddrL (rd_V rfl) rfl g_4) ?_
  refine W.o (e_loadND rfl (DP.refl _) (c27_len _)) ?_
  obtain ⟨r_5, g_6, hF⟩ := bind_some hF
  refine cl (ale rfl) (ih (.e34 r_1.2 v_3) _ g_6 _ _ iP0 (fun st hs => ?_) _ hs)
  refine rn 1 rfl ?_
  refine W.o (e_faddrD rfl) ?_
  refine W.o (e_load1D rfl (DP.fld (DP.refl _) (lrg27_Group n))) ?_
  refine W.o (bR (cs := c76 ({ Kind := 5, Set := (Arr.rep 4 (0 : Int)), To := 0, Group := n.Group, Last := 0, Slot := 0 } : T76)) rfl rfl) ?_
  obtain ⟨r_7, g_8, hF⟩ := bind_some hF
  refine cl (ale rfl) (d35 r_5 ({ Kind := 5, Set := (Arr.rep 4 (0 : Int)), To := 0, Group := n.Group, Last := 0, Slot := 0 } : T76) _ g_8 _ _ iP0 (fun st hs => ?_) _ hs)
  refine rn 0 rfl ?_
  cases hF
  exact eS rl0 (hK _ hs) rfl
 | e79 c n =>
  dsimp only at hF
  intro K Ls iP0 hK  st hs
  refine bS k79 rfl ?_
  refine rn 0 rfl ?_
  refine W.o (e_boxD (cs := c27 n) rfl (by rw [c27_len]; rfl) (c27_one _)) ?_
  refine rn 1 rfl ?_
  refine W.o (e_faddrD rfl) ?_
  refine W.o (e_load1D rfl (DP.fld (DP.refl _) (lrg27_Kids n))) ?_
  refine W.o (e_len (rd_V rfl)) ?_
  refine rn 2 rfl ?_
  refine W.o (e_faddrD rfl) ?_
  refine W.o (e_load1D rfl (DP.fld (DP.refl _) (lrg27_Kids n))) ?_
  obtain ⟨w_1, g_2, hF⟩ := bind_some hF
  refine rn 1 rfl ?_
  refine W.o (e_slLh (rd_V rfl) rfl g_2) ?_
  refine W.o (e_len (rd_V rfl)) ?_
  refine rn 1 rfl ?_
  have hs := hs.ownNil Int
  exact ih (.p79_1 n (IntKind.wrap .i64 (((ls n.Kids).length : Int) - 1)) w_1 ((ls w_1).length : Int) 0 c none) _ hF K Ls iP0 hK _ _ 0 ⟨rfl, rfl, rfl, rfl, rfl, rfl, rfl, trivial⟩ (hs.p 2 [1, 0] rfl)
 | p79_1 n last t18_ t19_ t20_ c out =>
  dsimp only at hF
  intro K Ls iP0 hK tm st io1 hf hs
  refine en hf ?_
  refine lp ?_
  refine rn 1 rfl ?_
  refine ci hF rfl (fun c_4 hF => ?_) (fun c_4 hF => ?_)
  · obtain ⟨v_5, g_6, hF⟩ := bind_some hF
    refine rn 0 rfl ?_
    refine W.o (e_iaddrL (rd_V rfl) rfl g_6) ?_
    refine W.o (e_loadND rfl (DP.refl _) (c27_len _)) ?_
    refine al hs (cs := c27 ({ Kind := 0, Set := (Arr.rep 4 (0 : Int)), Min := 0, Max := 0, Group := 0, Kids := none } : T27)) rfl fun st b_7 hs => ?_
    refine sl hs 0 rfl rfl (LR.whole _ _) (c27_len _) rfl (c27_len _) (c27_one _) rfl fun st hs => ?_
    refine rn 1 rfl ?_
    refine W.o (bR (cs := c76 ({ Kind := 2, Set := (Arr.rep 4 (0 : Int)), To := 0, Group := 0, Last := 0, Slot := 0 } : T76)) rfl rfl) ?_
    obtain ⟨r_8, g_9, hF⟩ := bind_some hF
    refine cl (ale rfl) (d35 c ({ Kind := 2, Set := (Arr.rep 4 (0 : Int)), To := 0, Group := 0, Last := 0, Slot := 0 } : T76) _ g_9 _ _ iP0 (fun st hs => ?_) _ (hs.p 3 [1, 0, 0] rfl))
    refine rn 2 rfl ?_
    refine W.o (e_loadN rfl (hs.g 1 rfl) (LR.whole _ _) (c27_len _)) ?_
    obtain ⟨r_10, g_11, hF⟩ := bind_some hF
    refine cl (ale rfl) (ih (.e34 r_8.2 v_5) _ g_11 _ _ iP0 (fun st hs => ?_) _ hs)
    refine rn 2 rfl ?_
    refine W.o (bR (cs := c76 ({ Kind := 3, Set := (Arr.rep 4 (0 : Int)), To := 0, Group := 0, Last := 0, Slot := 0 } : T76)) rfl rfl) ?_
    obtain ⟨r_12, g_13, hF⟩ := bind_some hF
    refine cl (ale rfl) (d35 r_10 ({ Kind := 3, Set := (Arr.rep 4 (0 : Int)), To := 0, Group := 0, Last := 0, Slot := 0 } : T76) _ g_13 _ _ iP0 (fun st hs => ?_) _ hs)
    refine bs (f := AV.int .i64) ([r_12.1] : List Int) hs rfl rfl rfl rfl fun st b_14 hs => ?_
    obtain ⟨g_15, hF⟩ := grd_some hF
    refine ap (ys := ls (some ([r_12.1] : List Int))) hs 3 rfl rfl (ae_rd (rd_W (o := (some ([r_12.1] : List Int))) (id := b_14) rfl)) g_15 (fun _ => rfl) fun st b_16 hs => ?_
    have hs := (hs.p 4 [1, 0, 0, 0] rfl)
    obtain ⟨j_17, hs⟩ := SH.bx1o hs
    refine rn 1 rfl ?_
    have h0 := hs
    refine dr0 ?_
    refine dn 1 rfl ?_
    refine de rfl (e_nilck rfl (h0.g 0 rfl)) ?_
    refine de rfl (e_faddr rfl (h0.g 0 rfl)) ?_
    refine de rfl (l1 rfl (h0.g 0 rfl) rfl) ?_
    refine dn 2 rfl ?_
    refine de rfl (e_nilck rfl (h0.g 0 rfl)) ?_
    refine de rfl (e_faddr rfl (h0.g 0 rfl)) ?_
    refine de rfl (l1 rfl (h0.g 0 rfl) rfl) ?_
    refine de rfl (e_lenV h0 1 rfl rfl) ?_
    obtain ⟨v_18, g_19, hF⟩ := bind_some hF
    refine de rfl (e_iaddrV h0 1 rfl rfl rfl g_19) ?_
    refine de rfl (e_faddr rfl (SH.gv h0 1 rfl g_19)) ?_
    refine dz ?_
    refine slv hs 1 rfl rfl g_19 rfl (LR.cast (LR.comp (LR.comp (LR.whole _ _) (lrV_set c76_len g_19 ({ v_18 with To := ((ls r_12.2.code).length : Int) } : T76))) (lrx 5 1 (cI .i64 ((ls r_12.2.code).length : Int)) rfl rfl)) (by omega)) ((cI_len .i64) _) rfl ((cI_len .i64) _) ((cI_one .i64) _) rfl fun st hs => ?_
    have hs := hs.cong 0 rfl (cs' := [rvV 9 (vset r_12.2.code r_8.1 ({ v_18 with To := ((ls r_12.2.code).length : Int) } : T76)) j_17] ++ ((cI .i64) (r_12.2.slots) ++ ((cI .i64) (r_12.2.free)))) (by simp only [rvV_vset]) rfl
    refine rn 2 rfl ?_
    have hs : SH st (bx71_0r iP0 ({ r_12.2 with code := (vset r_12.2.code r_8.1 ({ v_18 with To := ((ls r_12.2.code).length : Int) } : T76)) } : T71) :: _) := SH.bx1c j_17 (hs.p 5 [0, 0, 0, 0, 0] rfl)
    exact ih (.p79_1 n last t18_ t19_ (IntKind.wrap .i64 (t20_ + 1)) ({ r_12.2 with code := (vset r_12.2.code r_8.1 ({ v_18 with To := ((ls r_12.2.code).length : Int) } : T76)) } : T71) (sapp out (ls (some ([r_12.1] : List Int))))) _ hF K Ls iP0 hK _ _ b_16 ⟨rfl, rfl, rfl, rfl, rfl, rfl, rfl, trivial⟩ (hs.p 4 [0, 2] rfl)
  · refine rn 1 rfl ?_
    refine W.o (e_faddrD rfl) ?_
    refine W.o (e_load1D rfl (DP.fld (DP.refl _) (lrg27_Kids n))) ?_
    obtain ⟨v_20, g_21, hF⟩ := bind_some hF
    refine rn 1 rfl ?_
    refine W.o (e_iaddrL (rd_V rfl) rfl g_21) ?_
    refine W.o (e_loadND rfl (DP.refl _) (c27_len _)) ?_
    obtain ⟨r_22, g_23, hF⟩ := bind_some hF
    refine cl (ale rfl) (ih (.e34 c v_20) _ g_23 _ _ iP0 (fun st hs => ?_) _ hs)
    refine rn 1 rfl ?_
    refine W.o (e_len (rd_W (o := out) (id := io1) rfl)) ?_
    refine rn 1 rfl ?_
    refine wkl (weak_strp (S := [56]) ⟨(dsw (es := 1) (f := AV.int .i64) (o := out) (id := io1)).1, trivial⟩) ?_
    exact ih (.p79_2 out ((ls out).length : Int) 0 r_22) _ hF K Ls iP0 hK _ _ ⟨rfl, (dsw (es := 1) (f := AV.int .i64) (o := out) (id := io1)).2, rfl, rfl, trivial⟩ (hs.p 2 [0] rfl)
 | p79_2 t56_ t57_ t58_ c =>
  dsimp only at hF
  intro K Ls iP0 hK tm st hf hs
  refine en hf ?_
  refine lp ?_
  refine rn 1 rfl ?_
  refine ci hF rfl (fun c_24 hF => ?_) (fun c_24 hF => ?_)
  · obtain ⟨v_25, g_26, hF⟩ := bind_some hF
    refine rn 0 rfl ?_
    refine W.o (e_iaddrL (rd_V rfl) rfl g_26) ?_
    refine W.o (l1D rfl rfl) ?_
    obtain ⟨j_27, hs⟩ := SH.bx1o hs
    refine rn 1 rfl ?_
    have h0 := hs
    refine dr0 ?_
    refine dn 1 rfl ?_
    refine de rfl (e_nilck rfl (h0.g 0 rfl)) ?_
    refine de rfl (e_faddr rfl (h0.g 0 rfl)) ?_
    refine de rfl (l1 rfl (h0.g 0 rfl) rfl) ?_
    refine dn 2 rfl ?_
    refine de rfl (e_nilck rfl (h0.g 0 rfl)) ?_
    refine de rfl (e_faddr rfl (h0.g 0 rfl)) ?_
    refine de rfl (l1 rfl (h0.g 0 rfl) rfl) ?_
    refine de rfl (e_lenV h0 1 rfl rfl) ?_
    obtain ⟨v_28, g_29, hF⟩ := bind_some hF
    refine de rfl (e_iaddrV h0 1 rfl rfl rfl g_29) ?_
    refine de rfl (e_faddr rfl (SH.gv h0 1 rfl g_29)) ?_
    refine dz ?_
    refine slv hs 1 rfl rfl g_29 rfl (LR.cast (LR.comp (LR.comp (LR.whole _ _) (lrV_set c76_len g_29 ({ v_28 with To := ((ls c.code).length : Int) } : T76))) (lrx 5 1 (cI .i64 ((ls c.code).length : Int)) rfl rfl)) (by omega)) ((cI_len .i64) _) rfl ((cI_len .i64) _) ((cI_one .i64) _) rfl fun st hs => ?_
    have hs := hs.cong 0 rfl (cs' := [rvV 9 (vset c.code v_25 ({ v_28 with To := ((ls c.code).length : Int) } : T76)) j_27] ++ ((cI .i64) (c.slots) ++ ((cI .i64) (c.free)))) (by simp only [rvV_vset]) rfl
    refine rn 2 rfl ?_
    have hs : SH st (bx71_0r iP0 ({ c with code := (vset c.code v_25 ({ v_28 with To := ((ls c.code).length : Int) } : T76)) } : T71) :: _) := SH.bx1c j_27 (hs.p 2 [0, 0] rfl)
    exact ih (.p79_2 t56_ t57_ (IntKind.wrap .i64 (t58_ + 1)) ({ c with code := (vset c.code v_25 ({ v_28 with To := ((ls c.code).length : Int) } : T76)) } : T71)) _ hF K Ls iP0 hK _ _ ⟨rfl, rfl, rfl, rfl, trivial⟩ hs
  · refine rn 0 rfl ?_
    cases hF
    exact eS rl0 (hK _ hs) rfl
 | e80 c n =>
  dsimp only at hF
  intro K Ls iP0 hK  st hs
  refine bS k80 rfl ?_
  refine rn 0 rfl ?_
  refine W.o (e_boxD (cs := c27 n) rfl (by rw [c27_len]; rfl) (c27_one _)) ?_
  refine rn 0 rfl ?_
  refine W.o (e_faddrD rfl) ?_
  refine W.o (e_load1D rfl (DP.fld (DP.refl _) (lrg27_Min n))) ?_
  refine rn 1 rfl ?_
  exact ih (.p80_1 n n.Min 0 c) _ hF K Ls iP0 hK _ _ ⟨rfl, rfl, rfl, rfl, trivial⟩ hs
 | p80_1 n t10_ t11_ c =>
  dsimp only at hF
  intro K Ls iP0 hK tm st hf hs
  refine en hf ?_
  refine lp ?_
  refine rn 1 rfl ?_
  refine ci hF rfl (fun c_1 hF => ?_) (fun c_1 hF => ?_)
  · obtain ⟨j_2, hs⟩ := SH.bx1o hs
    refine rn 1 rfl ?_
    refine W.o (e_nilck rfl (hs.g 0 rfl)) ?_
    refine W.o (e_faddr rfl (hs.g 0 rfl)) ?_
    refine W.o (l1 rfl (hs.g 0 rfl) rfl) ?_
    refine W.o (e_lenV hs 1 rfl rfl) ?_
    refine rn 2 rfl ?_
    refine W.o (e_faddrD rfl) ?_
    refine W.o (e_load1D rfl (DP.fld (DP.refl _) (lrg27_Kids n))) ?_
    obtain ⟨v_3, g_4, hF⟩ := bind_some hF
    refine W.o (e_iaddrL (rd_V rfl) rfl g_4) ?_
    refine W.o (e_loadND rfl (DP.refl _) (c27_len _)) ?_
    have hs : SH st (bx71_0r iP0 c :: _) := SH.bx1c j_2 (hs.p 2 [0, 0] rfl)
    obtain ⟨r_5, g_6, hF⟩ := bind_some hF
    refine cl (ale rfl) (ih (.e93 c v_3 false) _ g_6 _ _ iP0 (fun st hs => ?_) _ hs)
    obtain ⟨j_7, hs⟩ := SH.bx1o hs
    refine rn 1 rfl ?_
    refine W.o (e_nilck rfl (hs.g 0 rfl)) ?_
    refine W.o (e_faddr rfl (hs.g 0 rfl)) ?_
    refine W.o (l1 rfl (hs.g 0 rfl) rfl) ?_
    refine W.o (e_lenV hs 1 rfl rfl) ?_
    refine rn 2 rfl ?_
    refine ci hF rfl (fun c_8 hF => ?_) (fun c_8 hF => ?_)
    · refine rj 0 1 rfl ?_
      have hs : SH st (bx71_0r iP0 r_5 :: _) := SH.bx1c j_7 (hs.p 2 [0, 0] rfl)
      exact ih (.p80_2 n r_5) _ hF K Ls iP0 hK _ _ ⟨rfl, rfl, trivial⟩ hs
    · refine rn 2 rfl ?_
      have hs : SH st (bx71_0r iP0 r_5 :: _) := SH.bx1c j_7 (hs.p 2 [0, 0] rfl)
      exact ih (.p80_1 n t10_ (IntKind.wrap .i64 (t11_ + 1)) r_5) _ hF K Ls iP0 hK _ _ ⟨rfl, rfl, rfl, rfl, trivial⟩ hs
  · refine rj 0 1 rfl ?_
    exact ih (.p80_2 n c) _ hF K Ls iP0 hK _ _ ⟨rfl, rfl, trivial⟩ hs
 | p80_2 n c =>
  dsimp only at hF
  intro K Ls iP0 hK tm st hf hs
  refine en hf ?_
  refine rn 0 rfl ?_
  refine W.o (e_faddrD rfl) ?_
  refine W.o (e_load1D rfl (DP.fld (DP.refl _) (lrg27_Max n))) ?_
  refine rn 1 rfl ?_
  refine ci hF rfl (fun c_9 hF => ?_) (fun c_9 hF => ?_)
  · refine rn 1 rfl ?_
    refine W.o (bR (cs := c76 ({ Kind := 2, Set := (Arr.rep 4 (0 : Int)), To := 0, Group := 0, Last := 0, Slot := 0 } : T76)) rfl rfl) ?_
    obtain ⟨r_10, g_11, hF⟩ := bind_some hF
    refine cl (ale rfl) (d35 c ({ Kind := 2, Set := (Arr.rep 4 (0 : Int)), To := 0, Group := 0, Last := 0, Slot := 0 } : T76) _ g_11 _ _ iP0 (fun st hs => ?_) _ hs)
    refine rn 2 rfl ?_
    refine W.o (e_faddrD rfl) ?_
    refine W.o (e_load1D rfl (DP.fld (DP.refl _) (lrg27_Kids n))) ?_
    obtain ⟨v_12, g_13, hF⟩ := bind_some hF
    refine W.o (e_iaddrL (rd_V rfl) rfl g_13) ?_
    refine W.o (e_loadND rfl (DP.refl _) (c27_len _)) ?_
    obtain ⟨r_14, g_15, hF⟩ := bind_some hF
    refine cl (ale rfl) (ih (.e93 r_10.2 v_12 true) _ g_15 _ _ iP0 (fun st hs => ?_) _ hs)
    refine rn 2 rfl ?_
    refine W.o (bR (cs := c76 ({ Kind := 3, Set := (Arr.rep 4 (0 : Int)), To := r_10.1, Group := 0, Last := 0, Slot := 0 } : T76)) rfl rfl) ?_
    obtain ⟨r_16, g_17, hF⟩ := bind_some hF
    refine cl (ale rfl) (d35 r_14 ({ Kind := 3, Set := (Arr.rep 4 (0 : Int)), To := r_10.1, Group := 0, Last := 0, Slot := 0 } : T76) _ g_17 _ _ iP0 (fun st hs => ?_) _ hs)
    obtain ⟨j_18, hs⟩ := SH.bx1o hs
    refine rn 0 rfl ?_
    have h0 := hs
    refine dr0 ?_
    refine dn 1 rfl ?_
    refine de rfl (e_nilck rfl (h0.g 0 rfl)) ?_
    refine de rfl (e_faddr rfl (h0.g 0 rfl)) ?_
    refine de rfl (l1 rfl (h0.g 0 rfl) rfl) ?_
    refine dn 2 rfl ?_
    refine de rfl (e_nilck rfl (h0.g 0 rfl)) ?_
    refine de rfl (e_faddr rfl (h0.g 0 rfl)) ?_
    refine de rfl (l1 rfl (h0.g 0 rfl) rfl) ?_
    refine de rfl (e_lenV h0 1 rfl rfl) ?_
    obtain ⟨v_19, g_20, hF⟩ := bind_some hF
    refine de rfl (e_iaddrV h0 1 rfl rfl rfl g_20) ?_
    refine de rfl (e_faddr rfl (SH.gv h0 1 rfl g_20)) ?_
    refine dz ?_
    refine slv hs 1 rfl rfl g_20 rfl (LR.cast (LR.comp (LR.comp (LR.whole _ _) (lrV_set c76_len g_20 ({ v_19 with To := ((ls r_16.2.code).length : Int) } : T76))) (lrx 5 1 (cI .i64 ((ls r_16.2.code).length : Int)) rfl rfl)) (by omega)) ((cI_len .i64) _) rfl ((cI_len .i64) _) ((cI_one .i64) _) rfl fun st hs => ?_
    have hs := hs.cong 0 rfl (cs' := [rvV 9 (vset r_16.2.code r_10.1 ({ v_19 with To := ((ls r_16.2.code).length : Int) } : T76)) j_18] ++ ((cI .i64) (r_16.2.slots) ++ ((cI .i64) (r_16.2.free)))) (by simp only [rvV_vset]) rfl
    refine rn 0 rfl ?_
    have hs : SH st (bx71_0r iP0 ({ r_16.2 with code := (vset r_16.2.code r_10.1 ({ v_19 with To := ((ls r_16.2.code).length : Int) } : T76)) } : T71) :: _) := SH.bx1c j_18 (hs.p 2 [0, 0] rfl)
    cases hF
    exact rS rl0 (hK _ hs) rfl
  · refine rn 1 rfl ?_
    refine W.o (e_faddrD rfl) ?_
    refine W.o (e_load1D rfl (DP.fld (DP.refl _) (lrg27_Max n))) ?_
    refine W.o (e_faddrD rfl) ?_
    refine W.o (e_load1D rfl (DP.fld (DP.refl _) (lrg27_Min n))) ?_
    refine rn 2 rfl ?_
    have hs := hs.ownNil Int
    exact ih (.p80_3 n (IntKind.wrap .i64 (n.Max - n.Min)) 0 c none) _ hF K Ls iP0 hK _ _ 0 ⟨rfl, rfl, rfl, rfl, rfl, trivial⟩ (hs.p 2 [1, 0] rfl)
 | p80_3 n t64_ t65_ c out =>
  dsimp only at hF
  intro K Ls iP0 hK tm st io1 hf hs
  refine en hf ?_
  refine lp ?_
  refine rn 1 rfl ?_
  refine ci hF rfl (fun c_22 hF => ?_) (fun c_22 hF => ?_)
  · refine rn 2 rfl ?_
    refine W.o (bR (cs := c76 ({ Kind := 2, Set := (Arr.rep 4 (0 : Int)), To := 0, Group := 0, Last := 0, Slot := 0 } : T76)) rfl rfl) ?_
    obtain ⟨r_23, g_24, hF⟩ := bind_some hF
    refine cl (ale rfl) (d35 c ({ Kind := 2, Set := (Arr.rep 4 (0 : Int)), To := 0, Group := 0, Last := 0, Slot := 0 } : T76) _ g_24 _ _ iP0 (fun st hs => ?_) _ hs)
    refine bs (f := AV.int .i64) ([r_23.1] : List Int) hs rfl rfl rfl rfl fun st b_25 hs => ?_
    obtain ⟨g_26, hF⟩ := grd_some hF
    refine ap (ys := ls (some ([r_23.1] : List Int))) hs 2 rfl rfl (ae_rd (rd_W (o := (some ([r_23.1] : List Int))) (id := b_25) rfl)) g_26 (fun _ => rfl) fun st b_27 hs => ?_
    refine rn 2 rfl ?_
    refine W.o (e_faddrD rfl) ?_
    refine W.o (e_load1D rfl (DP.fld (DP.refl _) (lrg27_Kids n))) ?_
    obtain ⟨v_28, g_29, hF⟩ := bind_some hF
    refine W.o (e_iaddrL (rd_V rfl) rfl g_29) ?_
    refine W.o (e_loadND rfl (DP.refl _) (c27_len _)) ?_
    obtain ⟨r_30, g_31, hF⟩ := bind_some hF
    refine cl (ale rfl) (ih (.e93 r_23.2 v_28 true) _ g_31 _ _ iP0 (fun st hs => ?_) _ (hs.p 3 [1, 0, 0] rfl))
    refine rn 2 rfl ?_
    exact ih (.p80_3 n t64_ (IntKind.wrap .i64 (t65_ + 1)) r_30 (sapp out (ls (some ([r_23.1] : List Int))))) _ hF K Ls iP0 hK _ _ b_27 ⟨rfl, rfl, rfl, rfl, rfl, trivial⟩ (hs.p 3 [0, 1] rfl)
  · refine rn 1 rfl ?_
    refine W.o (e_len (rd_W (o := out) (id := io1) rfl)) ?_
    refine rn 1 rfl ?_
    refine wkl (weak_strp (S := [80]) ⟨(dsw (es := 1) (f := AV.int .i64) (o := out) (id := io1)).1, trivial⟩) ?_
    exact ih (.p80_4 out ((ls out).length : Int) 0 c) _ hF K Ls iP0 hK _ _ ⟨rfl, (dsw (es := 1) (f := AV.int .i64) (o := out) (id := io1)).2, rfl, rfl, trivial⟩ (hs.p 2 [0] rfl)
 | p80_4 t80_ t81_ t82_ c =>
  dsimp only at hF
  intro K Ls iP0 hK tm st hf hs
  refine en hf ?_
  refine lp ?_
  refine rn 1 rfl ?_
  refine ci hF rfl (fun c_32 hF => ?_) (fun c_32 hF => ?_)
  · obtain ⟨v_33, g_34, hF⟩ := bind_some hF
    refine rn 0 rfl ?_
    refine W.o (e_iaddrL (rd_V rfl) rfl g_34) ?_
    refine W.o (l1D rfl rfl) ?_
    obtain ⟨j_35, hs⟩ := SH.bx1o hs
    refine rn 1 rfl ?_
    have h0 := hs
    refine dr0 ?_
    refine dn 1 rfl ?_
    refine de rfl (e_nilck rfl (h0.g 0 rfl)) ?_
    refine de rfl (e_faddr rfl (h0.g 0 rfl)) ?_
    refine de rfl (l1 rfl (h0.g 0 rfl) rfl) ?_
    refine dn 2 rfl ?_
    refine de rfl (e_nilck rfl (h0.g 0 rfl)) ?_
    refine de rfl (e_faddr rfl (h0.g 0 rfl)) ?_
    refine de rfl (l1 rfl (h0.g 0 rfl) rfl) ?_
    refine de rfl (e_lenV h0 1 rfl rfl) ?_
    obtain ⟨v_36, g_37, hF⟩ := bind_some hF
    refine de rfl (e_iaddrV h0 1 rfl rfl rfl g_37) ?_
    refine de rfl (e_faddr rfl (SH.gv h0 1 rfl g_37)) ?_
    refine dz ?_
    refine slv hs 1 rfl rfl g_37 rfl (LR.cast (LR.comp (LR.comp (LR.whole _ _) (lrV_set c76_len g_37 ({ v_36 with To := ((ls c.code).length : Int) } : T76))) (lrx 5 1 (cI .i64 ((ls c.code).length : Int)) rfl rfl)) (by omega)) ((cI_len .i64) _) rfl ((cI_len .i64) _) ((cI_one .i64) _) rfl fun st hs => ?_
    have hs := hs.cong 0 rfl (cs' := [rvV 9 (vset c.code v_33 ({ v_36 with To := ((ls c.code).length : Int) } : T76)) j_35] ++ ((cI .i64) (c.slots) ++ ((cI .i64) (c.free)))) (by simp only [rvV_vset]) rfl
    refine rn 2 rfl ?_
    have hs : SH st (bx71_0r iP0 ({ c with code := (vset c.code v_33 ({ v_36 with To := ((ls c.code).length : Int) } : T76)) } : T71) :: _) := SH.bx1c j_35 (hs.p 2 [0, 0] rfl)
    exact ih (.p80_4 t80_ t81_ (IntKind.wrap .i64 (t82_ + 1)) ({ c with code := (vset c.code v_33 ({ v_36 with To := ((ls c.code).length : Int) } : T76)) } : T71)) _ hF K Ls iP0 hK _ _ ⟨rfl, rfl, rfl, rfl, trivial⟩ hs
  · refine rn 0 rfl ?_
    cases hF
    exact eS rl0 (hK _ hs) rfl
 | e93 c n free =>
  dsimp only at hF
  intro K Ls iP0 hK  st hs
  refine bS k93 rfl ?_
  refine rn 0 rfl ?_
  refine W.o (e_boxD (cs := c27 n) rfl (by rw [c27_len]; rfl) (c27_one _)) ?_
  obtain ⟨j_1, hs⟩ := SH.bx1o hs
  refine rn 1 rfl ?_
  refine W.o (e_nilck rfl (hs.g 0 rfl)) ?_
  refine W.o (e_faddr rfl (hs.g 0 rfl)) ?_
  refine W.o (l1 rfl (hs.g 0 rfl) rfl) ?_
  refine rn 2 rfl ?_
  refine ci hF rfl (fun c_2 hF => ?_) (fun c_2 hF => ?_)
  · refine rn 2 rfl ?_
    refine W.o (bR (cs := c76 ({ Kind := 7, Set := (Arr.rep 4 (0 : Int)), To := 0, Group := 0, Last := 0, Slot := c.free } : T76)) rfl rfl) ?_
    have hs : SH st (bx71_0r iP0 c :: _) := SH.bx1c j_1 (hs.p 2 [0, 0] rfl)
    obtain ⟨r_3, g_4, hF⟩ := bind_some hF
    refine cl (ale rfl) (d35 c ({ Kind := 7, Set := (Arr.rep 4 (0 : Int)), To := 0, Group := 0, Last := 0, Slot := c.free } : T76) _ g_4 _ _ iP0 (fun st hs => ?_) _ hs)
    obtain ⟨j_5, hs⟩ := SH.bx1o hs
    refine rn 1 rfl ?_
    refine W.o (e_nilck rfl (hs.g 0 rfl)) ?_
    refine W.o (e_faddr rfl (hs.g 0 rfl)) ?_
    refine W.o (l1 rfl (hs.g 0 rfl) rfl) ?_
    refine rn 1 rfl ?_
    refine W.o (e_nilck rfl (hs.g 0 rfl)) ?_
    refine W.o (e_faddr rfl (hs.g 0 rfl)) ?_
    refine sr hs 0 rfl rfl rfl (cs' := [rvV 9 r_3.2.code j_5] ++ ((cI .i64) (({ r_3.2 with free := IntKind.wrap .i64 (r_3.2.free + 1) } : T71).slots) ++ ((cI .i64) (({ r_3.2 with free := IntKind.wrap .i64 (r_3.2.free + 1) } : T71).free)))) rfl rfl fun st hs => ?_
    refine rn 0 rfl ?_
    have h0 := hs
    refine dr0 ?_
    refine dn 2 rfl ?_
    refine de rfl (e_nilck rfl (h0.g 0 rfl)) ?_
    refine de rfl (e_faddr rfl (h0.g 0 rfl)) ?_
    refine de rfl (l1 rfl (h0.g 0 rfl) rfl) ?_
    refine dn 1 rfl ?_
    refine de rfl (e_nilck rfl (h0.g 0 rfl)) ?_
    refine de rfl (e_faddr rfl (h0.g 0 rfl)) ?_
    refine de rfl (l1 rfl (h0.g 0 rfl) rfl) ?_
    refine dn 1 rfl ?_
    refine de rfl (e_nilck rfl (h0.g 0 rfl)) ?_
    refine de rfl (e_faddr rfl (h0.g 0 rfl)) ?_
    refine dz ?_
    refine sr hs 0 rfl rfl rfl (cs' := [rvV 9 r_3.2.code j_5] ++ ((cI .i64) (({ r_3.2 with free := IntKind.wrap .i64 (r_3.2.free + 1), slots := (if (IntKind.wrap .i64 (r_3.2.free + 1)) > r_3.2.slots then (IntKind.wrap .i64 (r_3.2.free + 1)) else r_3.2.slots) } : T71).slots) ++ ((cI .i64) (({ r_3.2 with free := IntKind.wrap .i64 (r_3.2.free + 1), slots := (if (IntKind.wrap .i64 (r_3.2.free + 1)) > r_3.2.slots then (IntKind.wrap .i64 (r_3.2.free + 1)) else r_3.2.slots) } : T71).free)))) rfl rfl fun st hs => ?_
    refine rj 0 1 rfl ?_
    have hs : SH st (bx71_0r iP0 ({ r_3.2 with free := IntKind.wrap .i64 (r_3.2.free + 1), slots := (if (IntKind.wrap .i64 (r_3.2.free + 1)) > r_3.2.slots then (IntKind.wrap .i64 (r_3.2.free + 1)) else r_3.2.slots) } : T71) :: _) := SH.bx1c j_5 (hs.p 2 [0, 0] rfl)
    exact ih (.p93_1 free n c.free ({ r_3.2 with free := IntKind.wrap .i64 (r_3.2.free + 1), slots := (if (IntKind.wrap .i64 (r_3.2.free + 1)) > r_3.2.slots then (IntKind.wrap .i64 (r_3.2.free + 1)) else r_3.2.slots) } : T71)) _ hF K Ls iP0 hK _ _ ⟨rfl, rfl, rfl, rfl, trivial⟩ hs
  · refine rj 0 1 rfl ?_
    have hs : SH st (bx71_0r iP0 c :: _) := SH.bx1c j_1 (hs.p 2 [0, 0] rfl)
    exact ih (.p93_1 free n c.free c) _ hF K Ls iP0 hK _ _ ⟨rfl, rfl, rfl, rfl, trivial⟩ hs
 | p93_1 free n slot c =>
  dsimp only at hF
  intro K Ls iP0 hK tm st hf hs
  refine en hf ?_
  refine rn 0 rfl ?_
  refine W.o (e_loadND rfl (DP.refl _) (c27_len _)) ?_
  obtain ⟨r_6, g_7, hF⟩ := bind_some hF
  refine df (d71 n _ g_7) rfl ?_
  refine rn 7 rfl ?_
  refine ci hF rfl (fun c_8 hF => ?_) (fun c_8 hF => ?_)
  · refine rn 3 rfl ?_
    refine W.o (bR (cs := c76 ({ Kind := 6, Set := (Arr.rep 4 (0 : Int)), To := 0, Group := r_6.1, Last := r_6.2, Slot := 0 } : T76)) rfl rfl) ?_
    obtain ⟨r_9, g_10, hF⟩ := bind_some hF
    refine cl (ale rfl) (d35 c ({ Kind := 6, Set := (Arr.rep 4 (0 : Int)), To := 0, Group := r_6.1, Last := r_6.2, Slot := 0 } : T76) _ g_10 _ _ iP0 (fun st hs => ?_) _ hs)
    refine rj 0 1 rfl ?_
    exact ih (.p93_2 free n slot r_9.2) _ hF K Ls iP0 hK _ _ ⟨rfl, rfl, rfl, rfl, trivial⟩ hs
  · refine rj 0 1 rfl ?_
    exact ih (.p93_2 free n slot c) _ hF K Ls iP0 hK _ _ ⟨rfl, rfl, rfl, rfl, trivial⟩ hs
 | p93_2 free n slot c =>
  dsimp only at hF
  intro K Ls iP0 hK tm st hf hs
  refine en hf ?_
  refine rn 1 rfl ?_
  refine W.o (e_loadND rfl (DP.refl _) (c27_len _)) ?_
  obtain ⟨r_11, g_12, hF⟩ := bind_some hF
  refine cl (ale rfl) (ih (.e34 c n) _ g_12 _ _ iP0 (fun st hs => ?_) _ hs)
  refine rn 1 rfl ?_
  refine ci hF rfl (fun c_13 hF => ?_) (fun c_13 hF => ?_)
  · obtain ⟨j_14, hs⟩ := SH.bx1o hs
    refine rn 1 rfl ?_
    refine W.o (e_nilck rfl (hs.g 0 rfl)) ?_
    refine W.o (e_faddr rfl (hs.g 0 rfl)) ?_
    refine W.o (l1 rfl (hs.g 0 rfl) rfl) ?_
    refine rn 1 rfl ?_
    refine W.o (e_nilck rfl (hs.g 0 rfl)) ?_
    refine W.o (e_faddr rfl (hs.g 0 rfl)) ?_
    refine sr hs 0 rfl rfl rfl (cs' := [rvV 9 r_11.code j_14] ++ ((cI .i64) (({ r_11 with free := IntKind.wrap .i64 (r_11.free - 1) } : T71).slots) ++ ((cI .i64) (({ r_11 with free := IntKind.wrap .i64 (r_11.free - 1) } : T71).free)))) rfl rfl fun st hs => ?_
    refine rn 2 rfl ?_
    refine W.o (bR (cs := c76 ({ Kind := 8, Set := (Arr.rep 4 (0 : Int)), To := 0, Group := 0, Last := 0, Slot := slot } : T76)) rfl rfl) ?_
    have hs : SH st (bx71_0r iP0 ({ r_11 with free := IntKind.wrap .i64 (r_11.free - 1) } : T71) :: _) := SH.bx1c j_14 (hs.p 2 [0, 0] rfl)
    obtain ⟨r_15, g_16, hF⟩ := bind_some hF
    refine cl (ale rfl) (d35 ({ r_11 with free := IntKind.wrap .i64 (r_11.free - 1) } : T71) ({ Kind := 8, Set := (Arr.rep 4 (0 : Int)), To := 0, Group := 0, Last := 0, Slot := slot } : T76) _ g_16 _ _ iP0 (fun st hs => ?_) _ hs)
    refine rn 0 rfl ?_
    cases hF
    exact eS rl0 (hK _ hs) rfl
  · refine rn 0 rfl ?_
    cases hF
    exact eS rl0 (hK _ hs) rfl
noncomputable def F34 (c : T71) (n : T27) : Option T71 := G34r (.e34 c n)
theorem d34 (c : T71) (n : T27) (r : T71) (hF : F34 c n = some r) : ∀ (K : AV → Store → Prop) (Ls : List Asn) (iP0 : Nat), (∀ st, SH st (bx71_0r iP0 r :: Ls) → K (AV.tup []) st) → ∀ (st : Store), SH st (bx71_0r iP0 c :: Ls) → XCall Tryd.prog gE 34 [.ptr iP0 0, v27 n] st K := by
 exact w34r (.e34 c n) r hF
noncomputable def F77 (c : T71) (n : T27) : Option T71 := G34r (.e77 c n)
theorem d77 (c : T71) (n : T27) (r : T71) (hF : F77 c n = some r) : ∀ (K : AV → Store → Prop) (Ls : List Asn) (iP0 : Nat), (∀ st, SH st (bx71_0r iP0 r :: Ls) → K (AV.tup []) st) → ∀ (st : Store), SH st (bx71_0r iP0 c :: Ls) → XCall Tryd.prog gE 77 [.ptr iP0 0, v27 n] st K := by
 exact w34r (.e77 c n) r hF
noncomputable def F78 (c : T71) (n : T27) : Option T71 := G34r (.e78 c n)
theorem d78 (c : T71) (n : T27) (r : T71) (hF : F78 c n = some r) : ∀ (K : AV → Store → Prop) (Ls : List Asn) (iP0 : Nat), (∀ st, SH st (bx71_0r iP0 r :: Ls) → K (AV.tup []) st) → ∀ (st : Store), SH st (bx71_0r iP0 c :: Ls) → XCall Tryd.prog gE 78 [.ptr iP0 0, v27 n] st K := by
 exact w34r (.e78 c n) r hF
noncomputable def F79 (c : T71) (n : T27) : Option T71 := G34r (.e79 c n)
theorem d79 (c : T71) (n : T27) (r : T71) (hF : F79 c n = some r) : ∀ (K : AV → Store → Prop) (Ls : List Asn) (iP0 : Nat), (∀ st, SH st (bx71_0r iP0 r :: Ls) → K (AV.tup []) st) → ∀ (st : Store), SH st (bx71_0r iP0 c :: Ls) → XCall Tryd.prog gE 79 [.ptr iP0 0, v27 n] st K := by
 exact w34r (.e79 c n) r hF
noncomputable def F80 (c : T71) (n : T27) : Option T71 := G34r (.e80 c n)
theorem d80 (c : T71) (n : T27) (r : T71) (hF : F80 c n = some r) : ∀ (K : AV → Store → Prop) (Ls : List Asn) (iP0 : Nat), (∀ st, SH st (bx71_0r iP0 r :: Ls) → K (AV.tup []) st) → ∀ (st : Store), SH st (bx71_0r iP0 c :: Ls) → XCall Tryd.prog gE 80 [.ptr iP0 0, v27 n] st K := by
 exact w34r (.e80 c n) r hF
noncomputable def F93 (c : T71) (n : T27) (free : Bool) : Option T71 := G34r (.e93 c n free)
theorem d93 (c : T71) (n : T27) (free : Bool) (r : T71) (hF : F93 c n free = some r) : ∀ (K : AV → Store → Prop) (Ls : List Asn) (iP0 : Nat), (∀ st, SH st (bx71_0r iP0 r :: Ls) → K (AV.tup []) st) → ∀ (st : Store), SH st (bx71_0r iP0 c :: Ls) → XCall Tryd.prog gE 93 [.ptr iP0 0, v27 n, AV.bool free] st K := by
 exact w34r (.e93 c n free) r hF
def C19_1 : ACode := .s (.ops [q 1 (.boxD 9 0), q 2 (.alloc [(.int .i64 0), (.int .i64 0), .nils]), q 3 (.mv (ki 0))]) (.s (.s (.ops [q 8 (.loadN 9 1), qc 9 33 [8], q 7 (.mv 9), q 10 (.extract 7 0), q 11 (.extract 7 1), q 4 (.mv 10), q 5 (.mv 11)]) (.s (.ops [q 12 (.mv 5), q 13 (.binI .neq 12 (ki 0))]) (.cond 13 (.s (.ops [q 14 (.build [(.int .i64 0), (.int .i64 0), .nils] []), q 15 (.mv 5), q0 (.store 3 2 14), q 3 (.mv 15)]) .ret) .skip))) (.s (.ops [q 16 (.build [.nils, (.int .i64 0), (.int .i64 0)] []), q 17 (.box 3 16), q 6 (.mv 17)]) (.s (.ops [q 18 (.mv 6), q 19 (.loadN 9 1), qc 20 34 [18, 19]]) (.s (.ops [q 21 (.mv 6), q 22 (.build [(.int .u8 0), (.int .u64 0), (.int .u64 0), (.int .u64 0), (.int .u64 0), (.int .i64 0), (.int .i64 0), (.int .i64 0), (.int .i64 0)] [(0, (1, (ku 12)))]), qc 23 35 [21, 22]]) (.s (.draw [] 0 0 [q 24 (.loadN 9 1), q 26 (.mv 6), q 27 (.nilck 26), q 28 (.faddr 1 27), q 29 (.load1 28), q 30 (.mv 6), q 31 (.nilck 30), q 32 (.faddr 0 31), q 33 (.load1 32), qc 25 36 [24], q 34 (.build [(.int .i64 0), (.int .i64 0), .nils] [(0, (1, 25)), (1, (1, 29)), (2, (1, 33))])] [q0 (.store 3 2 34), q 3 (.mv (ki 0))]) .ret)))))
def R19 : List RA := [(.cellN 2 3), (.tmp 3)]
theorem k19 : compF Tryd.prog (muL [1]) 19 = some ⟨35, C19_1, R19⟩ := by kernel_rfl
noncomputable abbrev X19 (r : T45 × Int) : Cx := cD Tryd.prog gE 35 R19 (AV.tup [v45 r.1, AV.int .i64 r.2]) [1]
noncomputable def F19 (n : T27) : Option (T45 × Int) := (F33 n >>= fun r_2 => (if (r_2.2 != 0) = true then (some (({ Groups := 0, Slots := 0, Code := none } : T45), r_2.2)) else (F34 ({ code := (none : Sl T76), slots := 0, free := 0 } : T71) n >>= fun r_7 => (F35 r_7 ({ Kind := 12, Set := (Arr.rep 4 (0 : Int)), To := 0, Group := 0, Last := 0, Slot := 0 } : T76) >>= fun r_9 => (F36 n >>= fun r_12 => (some (({ Groups := r_12, Slots := r_9.2.slots, Code := r_9.2.code } : T45), 0)))))))
theorem d19 (n : T27) (r : T45 × Int) (hF : F19 n = some r) : DFun Tryd.prog gE 19 [v27 n] (AV.tup [v45 r.1, AV.int .i64 r.2]) := by
 unfold F19 at hF
 refine bD k19 rfl ?_
 have hs : SH [] [] := SH.nil
 generalize ([] : Store) = st at hs ⊢
 refine rn 0 rfl ?_
 refine W.o (e_boxD (cs := c27 n) rfl (by rw [c27_len]; rfl) (c27_one _)) ?_
 refine al hs (cs := c45 ({ Groups := 0, Slots := 0, Code := none } : T45)) rfl fun st b_1 hs => ?_
 refine rn 1 rfl ?_
 refine W.o (e_loadND rfl (DP.refl _) (c27_len _)) ?_
 obtain ⟨r_2, g_3, hF⟩ := bind_some hF
 refine df (d33 n _ g_3) rfl ?_
 refine rn 7 rfl ?_
 refine ci hF rfl (fun c_4 hF => ?_) (fun c_4 hF => ?_)
 · refine rn 0 rfl ?_
   refine W.o (bR (cs := c45 ({ Groups := 0, Slots := 0, Code := none } : T45)) rfl rfl) ?_
   refine rn 1 rfl ?_
   refine sl hs 0 rfl rfl (LR.whole _ _) (c45_len _) rfl (c45_len _) (c45_one _) rfl fun st hs => ?_
   refine rn 1 rfl ?_
   cases hF
   exact rD (rl_cellN rfl (hs.g 0 rfl) (LR.whole _ _) (c45_len _) (rlt rl0)) rfl
 · refine rn 0 rfl ?_
   refine W.o (bR (cs := c71 ({ code := none, slots := 0, free := 0 } : T71)) rfl rfl) ?_
   have hs := hs.rvNil (α := T76) c76
   refine bx hs (cs := [rvV 9 (none : Sl T76) 0] ++ ((cI .i64) (({ code := none, slots := 0, free := 0 } : T71).slots) ++ ((cI .i64) (({ code := none, slots := 0, free := 0 } : T71).free)))) rfl rfl fun st b_5 hs => ?_
   refine rn 2 rfl ?_
   refine W.o (e_loadND rfl (DP.refl _) (c27_len _)) ?_
   have hs : SH st (bx71_0r b_5 ({ code := (none : Sl T76), slots := 0, free := 0 } : T71) :: _) := SH.bx1c 0 (hs.p 3 [0, 0, 0] rfl)
   obtain ⟨r_7, g_8, hF⟩ := bind_some hF
   refine cl (ale rfl) (d34 ({ code := (none : Sl T76), slots := 0, free := 0 } : T71) n _ g_8 _ _ b_5 (fun st hs => ?_) _ hs)
   refine rn 1 rfl ?_
   refine W.o (bR (cs := c76 ({ Kind := 12, Set := (Arr.rep 4 (0 : Int)), To := 0, Group := 0, Last := 0, Slot := 0 } : T76)) rfl rfl) ?_
   obtain ⟨r_9, g_10, hF⟩ := bind_some hF
   refine cl (ale rfl) (d35 r_7 ({ Kind := 12, Set := (Arr.rep 4 (0 : Int)), To := 0, Group := 0, Last := 0, Slot := 0 } : T76) _ g_10 _ _ b_5 (fun st hs => ?_) _ hs)
   refine rj 0 2 rfl ?_
   obtain ⟨j_11, hs⟩ := SH.bx1o hs
   refine frz (off := 0) (es := 9) (c := c76) (g := v76) hs rfl (cs' := c71 r_9.2) rfl rfl c76_len c76_one (fun _ => rfl) fun st hs => ?_
   have h0 := hs
   refine dr0 ?_
   refine de rfl (e_loadND rfl (DP.refl _) (c27_len _)) ?_
   refine dn 1 rfl ?_
   refine de rfl (e_nilck rfl (h0.g 0 rfl)) ?_
   refine de rfl (e_faddr rfl (h0.g 0 rfl)) ?_
   refine de rfl (l1 rfl (h0.g 0 rfl) rfl) ?_
   refine dn 1 rfl ?_
   refine de rfl (e_nilck rfl (h0.g 0 rfl)) ?_
   refine de rfl (e_faddr rfl (h0.g 0 rfl)) ?_
   refine de rfl (l1 rfl (h0.g 0 rfl) rfl) ?_
   obtain ⟨r_12, g_13, hF⟩ := bind_some hF
   refine ddf (d36 n _ g_13) rfl ?_
   refine de rfl (e_build (z := [(.int .i64 0), (.int .i64 0), .nils]) (cs := c45 ({ Groups := r_12, Slots := r_9.2.slots, Code := r_9.2.code } : T45)) (pk_cons (cs := cI .i64 r_12) rfl rfl ((cI_len .i64) _) (by decide) (pk_cons (cs := cI .i64 r_9.2.slots) rfl rfl ((cI_len .i64) _) (by decide) (pk_cons (cs := cSl 9 v76 r_9.2.code) (v := slV 9 v76 r_9.2.code) rfl slV_cells (cSl_len _) (by decide) pk_nil))) (show fillA (c45 ({ Groups := 0, Slots := 0, Code := none } : T45)) _ = _ from (fl_cons (lrx 0 1 (cI .i64 r_12) rfl rfl) (((cI_len .i64) _).trans ((cI_len .i64) _).symm) (fl_cons (lrx 1 1 (cI .i64 r_9.2.slots) rfl rfl) (((cI_len .i64) _).trans ((cI_len .i64) _).symm) (fl_cons (lrx 2 1 (cSl 9 v76 r_9.2.code) rfl rfl) ((cSl_len _).trans (cSl_len _).symm) (fl_nil _)))))) ?_
   refine dz ?_
   refine sl hs 1 rfl rfl (LR.whole _ _) (c45_len _) rfl (c45_len _) (c45_one _) rfl fun st hs => ?_
   refine rn 1 rfl ?_
   cases hF
   exact rD (rl_cellN rfl (hs.g 1 rfl) (LR.whole _ _) (c45_len _) (rlt rl0)) rfl
def C57_1 : ACode := .s (.ops [q 2 (.boxD 4 0), q 4 (.mv (.c (.bool false)))]) (.s (.ops [q 5 (.mv 1), q 6 (.binI .quo 5 (ku 64)), q 7 (.iaddrA 4 1 2 6), q 8 (.load1 7), q 9 (.mv 1), q 10 (.binI .rem 9 (ku 64)), q 11 (.binI .shr 8 10), q 12 (.binI .and 11 (.c (.int .u64 1))), q 13 (.binI .eql 12 (.c (.int .u64 1))), q 4 (.mv 13)]) .ret)
def R57 : List RA := [(.tmp 4)]
theorem k57 : compF Tryd.prog (muL [2]) 57 = some ⟨14, C57_1, R57⟩ := by kernel_rfl
noncomputable abbrev X57 (r : Bool) : Cx := cD Tryd.prog gE 14 R57 (AV.bool r) [2]
noncomputable def F57 (s : Arr 4 Int) (c : Int) : Option Bool := (if (0 : Int) ≤ (IntKind.wrap .u8 (Int.tdiv c 64)) ∧ (IntKind.wrap .u8 (Int.tdiv c 64)) < (4 : Int) then (ix s.l (IntKind.wrap .u8 (Int.tdiv c 64)) >>= fun v_2 => (if 0 ≤ (Int.tmod c 64) then (some ((andI .u64 (shrI .u64 v_2 (Int.tmod c 64)) 1) == 1)) else none)) else none)
theorem d57 (s : Arr 4 Int) (c : Int) (r : Bool) (hF : F57 s c = some r) : DFun Tryd.prog gE 57 [v24 s, AV.int .u8 c] (AV.bool r) := by
 unfold F57 at hF
 refine bD k57 rfl ?_
 have hs : SH [] [] := SH.nil
 generalize ([] : Store) = st at hs ⊢
 refine rn 0 rfl ?_
 refine W.o (e_boxD (cs := c24 s) rfl rfl rfl) ?_
 refine rn 2 rfl ?_
 refine W.o (e_bin rfl rfl (op_quo _ _ _ (by decide))) ?_
 obtain ⟨g_1, hF⟩ := grd_some hF
 obtain ⟨v_2, g_3, hF⟩ := bind_some hF
 refine W.o (e_iaddrAD rfl rfl g_1) ?_
 refine W.o (e_load1D rfl (DP.fld (DP.refl _) (lrF_get (cI_len .u64) g_3))) ?_
 refine rn 1 rfl ?_
 refine W.o (e_bin rfl rfl (op_rem _ _ _ (by decide))) ?_
 obtain ⟨g_4, hF⟩ := grd_some hF
 refine W.o (e_bin rfl rfl (op_shr _ _ _ _ g_4)) ?_
 refine rn 3 rfl ?_
 cases hF
 exact rD (rlt rl0) rfl
def C56_1 : ACode := .s (.ops [q 4 (.boxD 3 0), q 5 (.boxD 1 1), q 6 (.boxD 1 2), q 7 (.boxD 1 3), q 8 (.mv (.c .nilfn))]) (.s (.ops [q 9 (.mkfn 85 [4, 7, 6, 5]), q 8 (.mv 9)]) .ret)
def R56 : List RA := [(.tmp 8)]
theorem k56 : compF Tryd.prog (muL [4, 5, 6, 7]) 56 = some ⟨10, C56_1, R56⟩ := by kernel_rfl
noncomputable abbrev X56 (r : T45 × Sl Int × Int × Str) : Cx := cD Tryd.prog gE 10 R56 (.fn 85 [.dptr (c45 r.1), .dptr (cSl 1 (AV.int .i64) r.2.1), .dptr (cI .i64 r.2.2.1), .dptr (cS r.2.2.2)]) [4, 5, 6, 7]
noncomputable def F56 (p : T45) (text : Str) (place : Int) (from_ : Sl Int) : Option (T45 × Sl Int × Int × Str) := (some (p, from_, place, text))
theorem d56 (p : T45) (text : Str) (place : Int) (from_ : Sl Int) (r : T45 × Sl Int × Int × Str) (hF : F56 p text place from_ = some r) : DFun Tryd.prog gE 56 [v45 p, AV.str text, AV.int .i64 place, slV 1 (AV.int .i64) from_] (.fn 85 [.dptr (c45 r.1), .dptr (cSl 1 (AV.int .i64) r.2.1), .dptr (cI .i64 r.2.2.1), .dptr (cS r.2.2.2)]) := by
 unfold F56 at hF
 refine bD k56 rfl ?_
 have hs : SH [] [] := SH.nil
 generalize ([] : Store) = st at hs ⊢
 refine rn 0 rfl ?_
 refine W.o (e_boxD (cs := c45 p) rfl rfl (c45_one _)) ?_
 refine W.o (e_boxD (cs := cS text) rfl rfl rfl) ?_
 refine W.o (e_boxD (cs := cI .i64 place) rfl rfl rfl) ?_
 refine W.o (e_boxD (cs := cSl 1 (AV.int .i64) from_) slV_cells rfl (cSl_one _)) ?_
 refine rn 3 rfl ?_
 cases hF
 exact rD (rlt rl0) rfl
def C85_8 : ACode := .s (.ops [q 21 (.binI .lss 20 19)]) (.s (.cond 21 .skip (.exit 0)) (.s (.block 1 (.s (.ops [q 22 (.iaddrL 1 18 20), q 23 (.load1 22), q 8 (.mv 23)]) (.ops [q 24 (.mv 6), q 25 (.mv 8), qc 26 86 [24, 25]]))) (.ops [q 27 (.binI .add 20 (ki 1)), q 20 (.mv 27)])))
def C85_37 : ACode := .cond 47 .ret .skip
def C85_74 : ACode := .s (.ops [q 88 (.load1 3), q 89 (.load1 4), q 90 (.lenS 89), q 91 (.binI .eql 88 90)]) (.cond 91 (.ops [q 92 (.mv 6), q 93 (.mv 10), q 94 (.binI .add 93 (ki 1)), qc 95 86 [92, 94]]) .skip)
def C85_42 : ACode := .s (.ops [q 53 (.faddr 0 11), q 54 (.load1 53)]) (.block 4 (.s (.s (.ops [q 60 (.binI .eql 54 (ku 1)), q 59 (.mv 60)]) (.cond 59 .skip (.ops [q 61 (.binI .eql 54 (ku 12)), q 59 (.mv 61)]))) (.cond 59 .skip (.s (.ops [q 63 (.binI .eql 54 (ku 2)), q 62 (.mv 63)]) (.cond 62 (.s (.ops [q 64 (.mv 6), q 65 (.mv 10), q 66 (.binI .add 65 (ki 1)), qc 67 86 [64, 66]]) (.ops [q 68 (.mv 6), q 69 (.faddr 5 11), q 70 (.load1 69), qc 71 86 [68, 70]])) (.s (.ops [q 73 (.binI .eql 54 (ku 3)), q 72 (.mv 73)]) (.cond 72 (.ops [q 74 (.mv 6), q 75 (.faddr 5 11), q 76 (.load1 75), qc 77 86 [74, 76]]) (.s (.ops [q 79 (.binI .eql 54 (ku 10)), q 78 (.mv 79)]) (.cond 78 (.s (.ops [q 80 (.load1 3), q 81 (.binI .eql 80 (ki 0))]) (.cond 81 (.ops [q 82 (.mv 6), q 83 (.mv 10), q 84 (.binI .add 83 (ki 1)), qc 85 86 [82, 84]]) .skip)) (.s (.ops [q 87 (.binI .eql 54 (ku 11)), q 86 (.mv 87)]) (.cond 86 C85_74 (.ops [q 55 (.mv 6), q 56 (.mv 10), q 57 (.binI .add 56 (ki 1)), qc 58 86 [55, 57]]))))))))))))
def C85_24 : ACode := .s (.s (.ops [q 28 (.mv 9), q 29 (.mv 6), q 30 (.nilck 29), q 31 (.faddr 1 30), q 32 (.load1 31), q 33 (.len 32), q 34 (.binI .lss 28 33)]) (.cond 34 .skip (.exit 2))) (.s (.block 3 (.s (.ops [q 37 (.mv 6), q 38 (.nilck 37), q 39 (.faddr 1 38), q 40 (.load1 39), q 41 (.mv 9), q 42 (.iaddrL 1 40 41), q 43 (.load1 42), q 10 (.mv 43)]) (.s (.s (.ops [q 44 (.mv 0), q 45 (.mv 10), qf 46 44 [45], q 47 (.un .not 46)]) C85_37) (.s (.ops [q 48 (.faddr 2 1), q 49 (.load1 48), q 50 (.mv 10), q 51 (.iaddrL 9 49 50), q 52 (.loadN 9 51), q 11 (.alloc [(.int .u8 0), (.int .u64 0), (.int .u64 0), (.int .u64 0), (.int .u64 0), (.int .i64 0), (.int .i64 0), (.int .i64 0), (.int .i64 0)]), q0 (.store 9 11 52)]) C85_42)))) (.ops [q 35 (.mv 9), q 36 (.binI .add 35 (ki 1)), q 9 (.mv 36)]))
def C85_20 : ACode := .s (.ops [q 9 (.mv (ki 0))]) (.block 2 (.loop C85_24))
def C85_1 : ACode := .s (.ops [q 12 (.faddr 2 1), q 13 (.load1 12), q 14 (.len 13), q 15 (.mkslice 1 1 [(.bool false)] 14 14 true), q 16 (.build [.nils, .nils] [(0, (1, 15))]), q 17 (.box 2 16), q 6 (.mv 17)]) (.s (.s (.ops [q 18 (.load1 2), q 19 (.len 18), q 20 (.mv (ki 0))]) (.block 0 (.loop C85_8))) C85_20)
def R85 : List RA := []
theorem k85 : compF Tryd.prog (muL [15]) 85 = some ⟨96, C85_1, R85⟩ := by kernel_rfl
noncomputable abbrev X85 (K : AV → Store → Prop) : Cx := cK Tryd.prog gE 96 R85 (isK K) [15]
inductive St85 (σ : Type) where
 | p1 (t1_ : T45) (t3_ : Int) (t4_ : Str) (t18_ : Sl Int) (t19_ : Int) (t20_ : Int) (s_ : σ) (s : T128)
 | p2 (t1_ : T45) (t3_ : Int) (t4_ : Str) (k : Int) (s_ : σ) (s : T128)
noncomputable def G85 {σ : Type} (Y : Int → σ → Option (Bool × σ)) : St85 σ → Option σ | .p1 t1_ t3_ t4_ t18_ t19_ t20_ s_ s => (if (decide (t20_ < t19_)) = true then (ix (ls t18_) t20_ >>= fun v_6 => (F86 s v_6 >>= fun r_8 => (G85 Y (.p1 t1_ t3_ t4_ t18_ t19_ (IntKind.wrap .i64 (t20_ + 1)) s_ r_8.2)))) else (G85 Y (.p2 t1_ t3_ t4_ 0 s_ s))) | .p2 t1_ t3_ t4_ k s_ s => (if (decide (k < ((ls s.list).length : Int))) = true then (ix (ls s.list) k >>= fun v_13 => (Y v_13 s_ >>= fun r_15 => (if (!r_15.1) = true then (some r_15.2) else (ix (ls t1_.Code) v_13 >>= fun v_18 => (if (v_18.Kind == 1) = true then (G85 Y (.p2 t1_ t3_ t4_ (IntKind.wrap .i64 (k + 1)) r_15.2 s)) else (if (v_18.Kind == 12) = true then (G85 Y (.p2 t1_ t3_ t4_ (IntKind.wrap .i64 (k + 1)) r_15.2 s)) else (if (v_18.Kind == 2) = true then (F86 s (IntKind.wrap .i64 (v_13 + 1)) >>= fun r_24 => (F86 r_24.2 v_18.To >>= fun r_26 => (G85 Y (.p2 t1_ t3_ t4_ (IntKind.wrap .i64 (k + 1)) r_15.2 r_26.2)))) else (if (v_18.Kind == 3) = true then (F86 s v_18.To >>= fun r_29 => (G85 Y (.p2 t1_ t3_ t4_ (IntKind.wrap .i64 (k + 1)) r_15.2 r_29.2))) else (if (v_18.Kind == 10) = true then (if (t3_ == 0) = true then (F86 s (IntKind.wrap .i64 (v_13 + 1)) >>= fun r_33 => (G85 Y (.p2 t1_ t3_ t4_ (IntKind.wrap .i64 (k + 1)) r_15.2 r_33.2))) else (G85 Y (.p2 t1_ t3_ t4_ (IntKind.wrap .i64 (k + 1)) r_15.2 s))) else (if (v_18.Kind == 11) = true then (if (t3_ == ((t4_).length : Int)) = true then (F86 s (IntKind.wrap .i64 (v_13 + 1)) >>= fun r_37 => (G85 Y (.p2 t1_ t3_ t4_ (IntKind.wrap .i64 (k + 1)) r_15.2 r_37.2))) else (G85 Y (.p2 t1_ t3_ t4_ (IntKind.wrap .i64 (k + 1)) r_15.2 s))) else (F86 s (IntKind.wrap .i64 (v_13 + 1)) >>= fun r_39 => (G85 Y (.p2 t1_ t3_ t4_ (IntKind.wrap .i64 (k + 1)) r_15.2 r_39.2))))))))))))) else (some s_)) partial_fixpoint
def M85 {σ : Type} (H : σ → Asn) (iY0 : Nat) (x : St85 σ) (r : σ) : Prop := match x with | .p1 t1_ t3_ t4_ t18_ t19_ t20_ s_ s => ∀ (K : AV → Store → Prop) (Ls : List Asn), (∀ st, SH st (H r :: Ls) → K (AV.tup []) st) → ∀ (tm : Fr) (st : Store) (io1 : Nat), Frm tm [(0, .yld iY0), (1, .dptr (c45 t1_)), (3, .dptr (cI .i64 t3_)), (4, .dptr (cS t4_)), (6, .ptr io1 0), (18, slV 1 (AV.int .i64) t18_), (19, AV.int .i64 t19_), (20, AV.int .i64 t20_)] → SH st (H s_ :: bx128_0r1o io1 s :: Ls) → W (X85 K) [.lp C85_8, .blk 0, .code C85_20] tm st | .p2 t1_ t3_ t4_ k s_ s => ∀ (K : AV → Store → Prop) (Ls : List Asn), (∀ st, SH st (H r :: Ls) → K (AV.tup []) st) → ∀ (tm : Fr) (st : Store) (io1 : Nat), Frm tm [(0, .yld iY0), (1, .dptr (c45 t1_)), (3, .dptr (cI .i64 t3_)), (4, .dptr (cS t4_)), (6, .ptr io1 0), (9, AV.int .i64 k)] → SH st (H s_ :: bx128_0r1o io1 s :: Ls) → W (X85 K) [.lp C85_24, .blk 2] tm st
theorem w85 {σ : Type} {H : σ → Asn} {Y : Int → σ → Option (Bool × σ)} (iY0 : Nat) (hY : ∀ (x : Int) (s : σ) (r : Bool × σ), Y x s = some r → ∀ (K : AV → Store → Prop) (L : List Asn) (st : Store), SH st (H s :: L) → (∀ st, SH st (H r.2 :: L) → K (.bool r.1) st) → XYield Tryd.prog gE iY0 [AV.int .i64 x] st K) : ∀ (x : St85 σ) (r : σ), G85 Y x = some r → M85 H iY0 x r := by
 refine G85.partial_correctness Y (M85 H iY0) ?_
 intro g ih x r hF
 cases x with
 | p1 t1_ t3_ t4_ t18_ t19_ t20_ s_ s =>
  dsimp only at hF
  intro K Ls hK tm st io1 hf hs
  refine en hf ?_
  refine lp ?_
  refine rn 1 rfl ?_
  refine ci hF rfl (fun c_5 hF => ?_) (fun c_5 hF => ?_)
  · obtain ⟨v_6, g_7, hF⟩ := bind_some hF
    refine rn 0 rfl ?_
    refine W.o (e_iaddrL (rd_V rfl) rfl g_7) ?_
    refine W.o (l1D rfl rfl) ?_
    obtain ⟨r_8, g_9, hF⟩ := bind_some hF
    refine rn 3 rfl ?_
    refine cl (ale rfl) (d86 s v_6 _ g_9 _ _ io1 (fun st hs => ?_) _ (hs.p 2 [1, 0] rfl))
    refine rn 2 rfl ?_
    exact ih (.p1 t1_ t3_ t4_ t18_ t19_ (IntKind.wrap .i64 (t20_ + 1)) s_ r_8.2) _ hF K Ls hK _ _ io1 ⟨rfl, rfl, rfl, rfl, rfl, rfl, rfl, rfl, trivial⟩ (hs.p 2 [1, 0] rfl)
  · refine rn 1 rfl ?_
    exact ih (.p2 t1_ t3_ t4_ 0 s_ s) _ hF K Ls hK _ _ io1 ⟨rfl, rfl, rfl, rfl, rfl, rfl, trivial⟩ hs
 | p2 t1_ t3_ t4_ k s_ s =>
  dsimp only at hF
  intro K Ls hK tm st io1 hf hs
  refine en hf ?_
  refine lp ?_
  have hs := (hs.p 2 [1, 0] rfl)
  obtain ⟨j_10, j_11, hs⟩ := SH.bx2o hs
  refine rn 2 rfl ?_
  refine W.o (e_nilck rfl (hs.g 0 rfl)) ?_
  refine W.o (e_faddr rfl (hs.g 0 rfl)) ?_
  refine W.o (l1 rfl (hs.g 0 rfl) rfl) ?_
  refine W.o (e_len (rd_W (o := s.list) (id := j_11) rfl)) ?_
  refine rn 1 rfl ?_
  refine ci hF rfl (fun c_12 hF => ?_) (fun c_12 hF => ?_)
  · refine rn 1 rfl ?_
    refine W.o (e_nilck rfl (hs.g 0 rfl)) ?_
    refine W.o (e_faddr rfl (hs.g 0 rfl)) ?_
    refine W.o (l1 rfl (hs.g 0 rfl) rfl) ?_
    obtain ⟨v_13, g_14, hF⟩ := bind_some hF
    refine rn 1 rfl ?_
    refine W.o (e_iaddrL (rd_W (o := s.list) (id := j_11) rfl) rfl g_14) ?_
    refine W.o (l1D rfl rfl) ?_
    obtain ⟨r_15, g_16, hF⟩ := bind_some hF
    refine rn 3 rfl ?_
    refine cy rfl rfl (hY _ _ _ g_16 _ _ _ (hs.p 4 [3, 0, 0, 0] rfl) fun st hs => ?_)
    refine rn 1 rfl ?_
    refine ci hF rfl (fun c_17 hF => ?_) (fun c_17 hF => ?_)
    · cases hF
      exact rS rl0 (hK _ (hs.p 4 [0] rfl)) rfl
    · refine rn 0 rfl ?_
      refine W.o (e_faddrD rfl) ?_
      refine W.o (l1D rfl (by first | rfl | (rw [slV_cells]; rfl))) ?_
      obtain ⟨v_18, g_19, hF⟩ := bind_some hF
      refine rn 1 rfl ?_
      refine W.o (e_iaddrL (rd_V rfl) rfl g_19) ?_
      refine W.o (lND (s := c76 v_18) rfl rfl rfl) ?_
      refine al hs (cs := c76 ({ Kind := 0, Set := (Arr.rep 4 (0 : Int)), To := 0, Group := 0, Last := 0, Slot := 0 } : T76)) rfl fun st b_20 hs => ?_
      refine sr hs 0 rfl rfl rfl (cs' := c76 v_18) rfl rfl fun st hs => ?_
      refine rn 0 rfl ?_
      refine W.o (e_faddr rfl (hs.g 0 rfl)) ?_
      refine W.o (l1 rfl (hs.g 0 rfl) rfl) ?_
      refine rn 2 rfl ?_
      refine ci hF rfl (fun c_21 hF => ?_) (fun c_21 hF => ?_)
      · refine rn 0 rfl ?_
        refine ct rfl c_21 ?_
        refine rn 3 rfl ?_
        have hs : SH st (bx128_0r1o io1 s :: _) := SH.bx2c j_10 j_11 (hs.p 5 [2, 2, 2, 0, 0] rfl)
        exact ih (.p2 t1_ t3_ t4_ (IntKind.wrap .i64 (k + 1)) r_15.2 s) _ hF K Ls hK _ _ io1 ⟨rfl, rfl, rfl, rfl, rfl, rfl, trivial⟩ (hs.p 3 [2, 0] rfl)
      · refine rn 2 rfl ?_
        refine ci hF rfl (fun c_22 hF => ?_) (fun c_22 hF => ?_)
        · refine rn 3 rfl ?_
          have hs : SH st (bx128_0r1o io1 s :: _) := SH.bx2c j_10 j_11 (hs.p 5 [2, 2, 2, 0, 0] rfl)
          exact ih (.p2 t1_ t3_ t4_ (IntKind.wrap .i64 (k + 1)) r_15.2 s) _ hF K Ls hK _ _ io1 ⟨rfl, rfl, rfl, rfl, rfl, rfl, trivial⟩ (hs.p 3 [2, 0] rfl)
        · refine rn 2 rfl ?_
          refine ci hF rfl (fun c_23 hF => ?_) (fun c_23 hF => ?_)
          · refine rn 3 rfl ?_
            have hs : SH st (bx128_0r1o io1 s :: _) := SH.bx2c j_10 j_11 (hs.p 5 [2, 2, 2, 0, 0] rfl)
            obtain ⟨r_24, g_25, hF⟩ := bind_some hF
            refine cl (ale rfl) (d86 s (IntKind.wrap .i64 (v_13 + 1)) _ g_25 _ _ io1 (fun st hs => ?_) _ hs)
            refine rn 1 rfl ?_
            refine W.o (e_faddr rfl (hs.g 1 rfl)) ?_
            refine W.o (l1 rfl (hs.g 1 rfl) rfl) ?_
            obtain ⟨r_26, g_27, hF⟩ := bind_some hF
            refine cl (ale rfl) (d86 r_24.2 v_18.To _ g_27 _ _ io1 (fun st hs => ?_) _ hs)
            refine rn 3 rfl ?_
            exact ih (.p2 t1_ t3_ t4_ (IntKind.wrap .i64 (k + 1)) r_15.2 r_26.2) _ hF K Ls hK _ _ io1 ⟨rfl, rfl, rfl, rfl, rfl, rfl, trivial⟩ (hs.p 3 [2, 0] rfl)
          · refine rn 2 rfl ?_
            refine ci hF rfl (fun c_28 hF => ?_) (fun c_28 hF => ?_)
            · refine rn 1 rfl ?_
              refine W.o (e_faddr rfl (hs.g 0 rfl)) ?_
              refine W.o (l1 rfl (hs.g 0 rfl) rfl) ?_
              have hs : SH st (bx128_0r1o io1 s :: _) := SH.bx2c j_10 j_11 (hs.p 5 [2, 2, 2, 0, 0] rfl)
              obtain ⟨r_29, g_30, hF⟩ := bind_some hF
              refine cl (ale rfl) (d86 s v_18.To _ g_30 _ _ io1 (fun st hs => ?_) _ hs)
              refine rn 3 rfl ?_
              exact ih (.p2 t1_ t3_ t4_ (IntKind.wrap .i64 (k + 1)) r_15.2 r_29.2) _ hF K Ls hK _ _ io1 ⟨rfl, rfl, rfl, rfl, rfl, rfl, trivial⟩ (hs.p 3 [2, 0] rfl)
            · refine rn 2 rfl ?_
              refine ci hF rfl (fun c_31 hF => ?_) (fun c_31 hF => ?_)
              · refine rn 0 rfl ?_
                refine W.o (l1D rfl rfl) ?_
                refine rn 1 rfl ?_
                refine ci hF rfl (fun c_32 hF => ?_) (fun c_32 hF => ?_)
                · refine rn 3 rfl ?_
                  have hs : SH st (bx128_0r1o io1 s :: _) := SH.bx2c j_10 j_11 (hs.p 5 [2, 2, 2, 0, 0] rfl)
                  obtain ⟨r_33, g_34, hF⟩ := bind_some hF
                  refine cl (ale rfl) (d86 s (IntKind.wrap .i64 (v_13 + 1)) _ g_34 _ _ io1 (fun st hs => ?_) _ hs)
                  refine rn 3 rfl ?_
                  exact ih (.p2 t1_ t3_ t4_ (IntKind.wrap .i64 (k + 1)) r_15.2 r_33.2) _ hF K Ls hK _ _ io1 ⟨rfl, rfl, rfl, rfl, rfl, rfl, trivial⟩ (hs.p 3 [2, 0] rfl)
                · refine rn 3 rfl ?_
                  have hs : SH st (bx128_0r1o io1 s :: _) := SH.bx2c j_10 j_11 (hs.p 5 [2, 2, 2, 0, 0] rfl)
                  exact ih (.p2 t1_ t3_ t4_ (IntKind.wrap .i64 (k + 1)) r_15.2 s) _ hF K Ls hK _ _ io1 ⟨rfl, rfl, rfl, rfl, rfl, rfl, trivial⟩ (hs.p 3 [2, 0] rfl)
              · refine rn 2 rfl ?_
                refine ci hF rfl (fun c_35 hF => ?_) (fun c_35 hF => ?_)
                · refine rn 0 rfl ?_
                  refine W.o (l1D rfl rfl) ?_
                  refine W.o (l1D rfl rfl) ?_
                  refine rn 2 rfl ?_
                  refine ci hF rfl (fun c_36 hF => ?_) (fun c_36 hF => ?_)
                  · refine rn 3 rfl ?_
                    have hs : SH st (bx128_0r1o io1 s :: _) := SH.bx2c j_10 j_11 (hs.p 5 [2, 2, 2, 0, 0] rfl)
                    obtain ⟨r_37, g_38, hF⟩ := bind_some hF
                    refine cl (ale rfl) (d86 s (IntKind.wrap .i64 (v_13 + 1)) _ g_38 _ _ io1 (fun st hs => ?_) _ hs)
                    refine rn 3 rfl ?_
                    exact ih (.p2 t1_ t3_ t4_ (IntKind.wrap .i64 (k + 1)) r_15.2 r_37.2) _ hF K Ls hK _ _ io1 ⟨rfl, rfl, rfl, rfl, rfl, rfl, trivial⟩ (hs.p 3 [2, 0] rfl)
                  · refine rn 3 rfl ?_
                    have hs : SH st (bx128_0r1o io1 s :: _) := SH.bx2c j_10 j_11 (hs.p 5 [2, 2, 2, 0, 0] rfl)
                    exact ih (.p2 t1_ t3_ t4_ (IntKind.wrap .i64 (k + 1)) r_15.2 s) _ hF K Ls hK _ _ io1 ⟨rfl, rfl, rfl, rfl, rfl, rfl, trivial⟩ (hs.p 3 [2, 0] rfl)
                · refine rn 3 rfl ?_
                  have hs : SH st (bx128_0r1o io1 s :: _) := SH.bx2c j_10 j_11 (hs.p 5 [2, 2, 2, 0, 0] rfl)
                  obtain ⟨r_39, g_40, hF⟩ := bind_some hF
                  refine cl (ale rfl) (d86 s (IntKind.wrap .i64 (v_13 + 1)) _ g_40 _ _ io1 (fun st hs => ?_) _ hs)
                  refine rn 3 rfl ?_
                  exact ih (.p2 t1_ t3_ t4_ (IntKind.wrap .i64 (k + 1)) r_15.2 r_39.2) _ hF K Ls hK _ _ io1 ⟨rfl, rfl, rfl, rfl, rfl, rfl, trivial⟩ (hs.p 3 [2, 0] rfl)
  · refine rn 0 rfl ?_
    cases hF
    exact eS rl0 (hK _ (hs.p 4 [3] rfl)) rfl
noncomputable def F85 {σ : Type} (Y : Int → σ → Option (Bool × σ)) (d0_ : T45) (d1_ : Sl Int) (d2_ : Int) (d3_ : Str) (s_ : σ) : Option σ := (if 0 ≤ ((ls d0_.Code).length : Int) ∧ ((ls d0_.Code).length : Int) = ((ls d0_.Code).length : Int) ∧ (1 : Int) * ((ls d0_.Code).length : Int) ≤ 281474976710656 then (G85 Y (.p1 d0_ d2_ d3_ d1_ ((ls d1_).length : Int) 0 s_ ({ in_ := (some (List.replicate (Int.toNat ((ls d0_.Code).length : Int)) (false : Bool))), list := (none : Sl Int) } : T128))) else none)
theorem d85 {σ : Type} {H : σ → Asn} {Y : Int → σ → Option (Bool × σ)} (iY0 : Nat) (hY : ∀ (x : Int) (s : σ) (r : Bool × σ), Y x s = some r → ∀ (K : AV → Store → Prop) (L : List Asn) (st : Store), SH st (H s :: L) → (∀ st, SH st (H r.2 :: L) → K (.bool r.1) st) → XYield Tryd.prog gE iY0 [AV.int .i64 x] st K) (d0_ : T45) (d1_ : Sl Int) (d2_ : Int) (d3_ : Str) (s_ : σ) (r : σ) (hF : F85 Y d0_ d1_ d2_ d3_ s_ = some r) : ∀ (K : AV → Store → Prop) (Ls : List Asn), (∀ st, SH st (H r :: Ls) → K (AV.tup []) st) → ∀ (st : Store), SH st (H s_ :: Ls) → XCall Tryd.prog gE 85 [.yld iY0, .dptr (c45 d0_), .dptr (cSl 1 (AV.int .i64) d1_), .dptr (cI .i64 d2_), .dptr (cS d3_)] st K := by
 unfold F85 at hF
 intro K Ls hK  st hs
 refine bS k85 rfl ?_
 refine rn 0 rfl ?_
 refine W.o (e_faddrD rfl) ?_
 refine W.o (l1D rfl (by first | rfl | (rw [slV_cells]; rfl))) ?_
 refine W.o (e_len (rd_V rfl)) ?_
 obtain ⟨g_2, hF⟩ := grd_some hF
 refine mkV (c := cB) (false : Bool) hs rfl rfl rfl g_2 fun st b_1 hs => ?_
 refine W.o (bR (cs := [rvV 1 (some (List.replicate (Int.toNat ((ls d0_.Code).length : Int)) (false : Bool))) b_1] ++ ((cSl 1 (AV.int .i64)) (({ in_ := (some (List.replicate (Int.toNat ((ls d0_.Code).length : Int)) (false : Bool))), list := none } : T128).list))) rfl rfl) ?_
 have hs := hs.ownNil Int
 refine bx hs (cs := [rvV 1 (some (List.replicate (Int.toNat ((ls d0_.Code).length : Int)) (false : Bool))) b_1] ++ ([ownV 1 (AV.int .i64) (none : Sl Int) 0])) rfl rfl fun st b_3 hs => ?_
 refine rn 1 rfl ?_
 refine W.o (l1D rfl (by first | rfl | (rw [slV_cells]; rfl))) ?_
 refine W.o (e_len (rd_V rfl)) ?_
 refine rn 1 rfl ?_
 have hs : SH st (bx128_0r1o b_3 ({ in_ := (some (List.replicate (Int.toNat ((ls d0_.Code).length : Int)) (false : Bool))), list := (none : Sl Int) } : T128) :: _) := SH.bx2c b_1 0 (hs.p 4 [0, 1, 0, 0] rfl)
 exact (w85 iY0 hY) (.p1 d0_ d2_ d3_ d1_ ((ls d1_).length : Int) 0 s_ ({ in_ := (some (List.replicate (Int.toNat ((ls d0_.Code).length : Int)) (false : Bool))), list := (none : Sl Int) } : T128)) _ hF K Ls hK _ _ b_3 ⟨rfl, rfl, rfl, rfl, rfl, rfl, rfl, rfl, trivial⟩ (hs.p 2 [1, 0] rfl)
def C38_27 : ACode := .ops [q 11 (.mv 25)]
def C38_28 : ACode := .block 3 (.s (.ops [q 26 (.faddr 2 3), q 27 (.load1 26), q 28 (.mv 11), q 29 (.iaddrL 9 27 28), q 30 (.loadN 9 29), q 12 (.alloc [(.int .u8 0), (.int .u64 0), (.int .u64 0), (.int .u64 0), (.int .u64 0), (.int .i64 0), (.int .i64 0), (.int .i64 0), (.int .i64 0)]), q0 (.store 9 12 30)]) (.block 4 (.s (.ops [q 32 (.faddr 0 12), q 33 (.load1 32), q 34 (.binI .eql 33 (ku 12)), q 31 (.mv 34)]) (.cond 31 (.ops [q 35 (.load1 7), q 36 (.load1 9), q 37 (.bslice 1 1 false [(.int .i64 0)] [(0, (1, 36))] false), q 38 (.app 1 8 35 37), q0 (.store 1 7 38)]) (.s (.draw [] 0 0 [q 40 (.faddr 0 12), q 41 (.load1 40), q 42 (.binI .eql 41 (ku 1)), q 43 (.mv 42), (q 44 (.load1 9)).y 43, (q 45 (.load1 4)).y 43, (q 46 (.lenS 45)).y 43, (q 47 (.binI .lss 44 46)).y 43, q 48 (.pick 43 47 (.c (.bool false))), q 49 (.mv 48), (q 50 (.faddr 1 12)).y 49, (q 51 (.loadN 4 50)).y 49, (q 52 (.load1 4)).y 49, (q 53 (.load1 9)).y 49, (q 54 (.ixS 52 53)).y 49] [(qc 55 57 [51, 54]).y 49, q 56 (.pick 49 55 (.c (.bool false))), q 39 (.mv 56)]) (.cond 39 (.ops [q 57 (.load1 10), q 58 (.mv 11), q 59 (.binI .add 58 (ki 1)), q 60 (.bslice 1 1 false [(.int .i64 0)] [(0, (1, 59))] false), q 61 (.app 1 8 57 60), q0 (.store 1 10 61)]) .skip))))))
def C38_26 : ACode := .range 24 [25] C38_27 C38_28
def C38_41 : ACode := .ops [q 62 (.load1 10), q 8 (.mv 62)]
def C38_22 : ACode := .s (.s (.ops [q 20 (.loadN 3 3), q 21 (.load1 4), q 22 (.load1 9), q 23 (.mv 8), qc 24 56 [20, 21, 22, 23]]) (.block 2 C38_26)) C38_41
def C38_42 : ACode := .s (.s (.ops [q 63 (.load1 9)]) (.ops [q 9 (.alloc [(.int .i64 0)]), q0 (.store 1 9 63)])) (.ops [q 18 (.load1 9), q 19 (.binI .add 18 (ki 1)), q0 (.store 1 9 19)])
def C38_12 : ACode := .s (.s (.ops [q 15 (.mv 8), q 16 (.len 15), q 17 (.binI .gtr 16 (ki 0))]) (.cond 17 .skip (.exit 0))) (.s (.block 1 (.s (.ops [q 10 (.alloc [.nils])]) C38_22)) C38_42)
def C38_47 : ACode := .s (.ops [q 64 (.load1 7), q 6 (.mv 64)]) .ret
def C38_1 : ACode := .s (.ops [q 3 (.boxD 3 0), q 4 (.boxD 1 1), q 6 (.mv (.c .nils))]) (.s (.ops [q 7 (.alloc [.nils])]) (.s (.ops [q 13 (.bslice 1 1 false [(.int .i64 0)] [(0, (1, (ki 0)))] false), q 8 (.mv 13)]) (.s (.s (.ops [q 14 (.mv 2), q 9 (.alloc [(.int .i64 0)]), q0 (.store 1 9 14)]) (.block 0 (.loop C38_12))) C38_47)))
def R38 : List RA := [(.tmp 6)]
theorem k38 : compF Tryd.prog (muL [3, 4]) 38 = some ⟨65, C38_1, R38⟩ := by kernel_rfl
noncomputable abbrev X38 (r : Sl Int) : Cx := cD Tryd.prog gE 65 R38 (slV 1 (AV.int .i64) r) [3, 4]
noncomputable def B38_1 (p : T45) (s : Str) (t6_ : Sl Int) (now : Sl Int) (t24_ : T45) (t24_2 : Sl Int) (t24_3 : Int) (t24_4 : Str) (x : Int) (zz : (Sl Int) × Int × (Sl Int) × Nat) : Option (Bool × ((Sl Int) × Int × (Sl Int) × Nat)) := if zz.2.2.2 = 0 then (ix (ls p.Code) x >>= fun v_1 => (if (v_1.Kind == 12) = true then (if ((ls zz.1).length + (ls (some ([zz.2.1] : List Int))).length) * 8 ≤ 140737488355328 then (some (true, (sapp zz.1 (ls (some ([zz.2.1] : List Int))), zz.2.1, zz.2.2.1, 0))) else none) else (if (v_1.Kind == 1) = true then (if (decide (zz.2.1 < ((s).length : Int))) = true then (ix s zz.2.1 >>= fun b_11 => (F57 v_1.Set (b_11.toNat : Int) >>= fun r_13 => (if r_13 = true then (if ((ls zz.2.2.1).length + (ls (some ([IntKind.wrap .i64 (x + 1)] : List Int))).length) * 8 ≤ 140737488355328 then (some (true, (zz.1, zz.2.1, sapp zz.2.2.1 (ls (some ([IntKind.wrap .i64 (x + 1)] : List Int))), 0))) else none) else (some (true, (zz.1, zz.2.1, zz.2.2.1, 0)))))) else (some (true, (zz.1, zz.2.1, zz.2.2.1, 0)))) else (some (true, (zz.1, zz.2.1, zz.2.2.1, 0))))))
else none
theorem b38_1 (p : T45) (s : Str) (t6_ : Sl Int) (now : Sl Int) (t24_ : T45) (t24_2 : Sl Int) (t24_3 : Int) (t24_4 : Str) (x : Int) (zz : (Sl Int) × Int × (Sl Int) × Nat) (r : Bool × ((Sl Int) × Int × (Sl Int) × Nat)) (hF : B38_1 p s t6_ now t24_ t24_2 t24_3 t24_4 x zz = some r) (K : AV → Store → Prop) (Ls : List Asn) (iL : Nat) (ca cb : Code) (tm0 : Fr) (io0 : Nat) (io1 : Nat) (io2 : Nat) (q1 : compC Tryd.prog 65 (rnd (muL [3, 4])) ca = some C38_27) (q2 : compC Tryd.prog 65 (rnd (muL [3, 4])) cb = some C38_28) (hf : Frm tm0 [(3, .dptr (c45 p)), (4, .dptr (cS s)), (6, slV 1 (AV.int .i64) t6_), (7, .ptr io0 0), (8, slV 1 (AV.int .i64) now), (9, .ptr io1 0), (10, .ptr io2 0), (24, .fn 85 [.dptr (c45 t24_), .dptr (cSl 1 (AV.int .i64) t24_2), .dptr (cI .i64 t24_3), .dptr (cS t24_4)])]) (hK : ∀ st, SH st (bun [pt iL (.loop 65 [25] ca cb tm0 (lsW r.2.2.2.2) (ljW [] r.2.2.2.2)), bx58_o io0 r.2.1, pt io1 (.cells (cI .i64 r.2.2.1)), bx58_o io2 r.2.2.2.1] :: Ls) → K (.bool r.1) st) (st : Store) (hs : SH st (bun [pt iL (.loop 65 [25] ca cb tm0 (lsW zz.2.2.2) (ljW [] zz.2.2.2)), bx58_o io0 zz.1, pt io1 (.cells (cI .i64 zz.2.1)), bx58_o io2 zz.2.2.1] :: Ls)) : XYield Tryd.prog gE iL [AV.int .i64 x] st K := by
 unfold B38_1 at hF
 obtain ⟨c_, hF⟩ := grd_some hF
 replace hs : SH st ([pt iL (.loop 65 [25] ca cb tm0 (lsW zz.2.2.2) (ljW [] zz.2.2.2)), bx58_o io0 zz.1, pt io1 (.cells (cI .i64 zz.2.1)), bx58_o io2 zz.2.2.1] ++ Ls) := SH.unbun hs
 rw [c_] at hs
 replace hs : SH st (pt iL (.loop 65 [25] ca cb tm0 .ready none) :: bx58_o io0 zz.1 :: pt io1 (.cells (cI .i64 zz.2.1)) :: bx58_o io2 zz.2.2.1 :: Ls) := hs
 replace hK : (∀ st, SH st (pt iL (.loop 65 [25] ca cb tm0 (lsW r.2.2.2.2) (ljW [] r.2.2.2.2)) :: bx58_o io0 r.2.1 :: pt io1 (.cells (cI .i64 r.2.2.1)) :: bx58_o io2 r.2.2.2.1 :: Ls) → K (.bool r.1) st) := fun st hs => hK st (SH.bun hs)
 refine bR' (mu := [3, 4]) q1 q2 hs rfl rfl (fun _ _ => trivial) ?_
 rw [putL1 hf]
 refine rn 1 rfl ?_
 refine rdW hs fun st hs => ?_
 refine rn 0 rfl ?_
 refine W.o (e_faddrD rfl) ?_
 refine W.o (l1D rfl (by first | rfl | (rw [slV_cells]; rfl))) ?_
 obtain ⟨v_1, g_2, hF⟩ := bind_some hF
 refine rn 1 rfl ?_
 refine W.o (e_iaddrL (rd_V rfl) rfl g_2) ?_
 refine W.o (lND (s := c76 v_1) rfl rfl rfl) ?_
 refine al hs (cs := c76 ({ Kind := 0, Set := (Arr.rep 4 (0 : Int)), To := 0, Group := 0, Last := 0, Slot := 0 } : T76)) rfl fun st b_3 hs => ?_
 refine sr hs 0 rfl rfl rfl (cs' := c76 v_1) rfl rfl fun st hs => ?_
 refine rn 0 rfl ?_
 refine W.o (e_faddr rfl (hs.g 0 rfl)) ?_
 refine W.o (l1 rfl (hs.g 0 rfl) rfl) ?_
 refine rn 2 rfl ?_
 refine ci hF rfl (fun c_4 hF => ?_) (fun c_4 hF => ?_)
 · have hs := (hs.p 5 [2, 0, 0, 0, 0] rfl)
   obtain ⟨j_5, hs⟩ := SH.bx1o hs
   refine rn 0 rfl ?_
   refine W.o (l1 rfl (hs.g 0 rfl) rfl) ?_
   refine W.o (l1 rfl (hs.g 4 rfl) rfl) ?_
   refine bs (f := AV.int .i64) ([zz.2.1] : List Int) hs rfl rfl rfl rfl fun st b_6 hs => ?_
   obtain ⟨g_7, hF⟩ := grd_some hF
   refine ap (ys := ls (some ([zz.2.1] : List Int))) hs 2 rfl rfl (ae_rd (rd_W (o := (some ([zz.2.1] : List Int))) (id := b_6) rfl)) g_7 (fun _ => rfl) fun st b_8 hs => ?_
   refine so hs 1 rfl rfl rfl ownV_c rfl (cs' := [ownV 1 (AV.int .i64) (sapp zz.1 (ls (some ([zz.2.1] : List Int)))) b_8]) rfl rfl fun st hs => ?_
   refine rn 0 rfl ?_
   have hs : SH st (bx58_o io0 (sapp zz.1 (ls (some ([zz.2.1] : List Int)))) :: _) := SH.bx1c b_8 (hs.p 7 [1, 1, 0, 0, 0, 0, 0] rfl)
   cases hF
   exact rdN (hs.p 6 [3, 0, 2, 2] rfl) (fun st hs => hK st hs)
 · refine rn 0 rfl ?_
   have h0 := hs
   refine dr0 ?_
   refine de rfl (e_faddr rfl (h0.g 0 rfl)) ?_
   refine de rfl (l1 rfl (h0.g 0 rfl) rfl) ?_
   refine dn 2 rfl ?_
   refine bi hF (fun c_9 hF => ?_) (fun c_9 hF => ?_)
   · refine dfx 43 rfl c_9 ?_
     refine don rfl rfl ?_
     refine de rfl (l1 rfl (h0.g 3 rfl) rfl) ?_
     refine don rfl rfl ?_
     refine de rfl (l1D rfl rfl) ?_
     refine dn 4 rfl ?_
     refine bi hF (fun c_10 hF => ?_) (fun c_10 hF => ?_)
     · refine dfx 49 rfl c_10 ?_
       refine don rfl rfl ?_
       refine de rfl (e_faddr rfl (h0.g 0 rfl)) ?_
       refine don rfl rfl ?_
       refine de rfl (lN (s := c24 v_1.Set) rfl (h0.g 0 rfl) rfl rfl) ?_
       refine don rfl rfl ?_
       refine de rfl (l1D rfl rfl) ?_
       refine don rfl rfl ?_
       refine de rfl (l1 rfl (h0.g 3 rfl) rfl) ?_
       obtain ⟨b_11, g_12, hF⟩ := bind_some hF
       refine don rfl rfl ?_
       refine de rfl (e_ixS rfl rfl g_12) ?_
       refine dz ?_
       obtain ⟨r_13, g_14, hF⟩ := bind_some hF
       refine W.on rfl rfl ?_
       refine df (d57 v_1.Set (b_11.toNat : Int) _ g_14) rfl ?_
       refine rn 2 rfl ?_
       refine ci hF rfl (fun c_15 hF => ?_) (fun c_15 hF => ?_)
       · have hs := (hs.p 5 [4, 0, 0, 0, 0] rfl)
         obtain ⟨j_16, hs⟩ := SH.bx1o hs
         refine rn 0 rfl ?_
         refine W.o (l1 rfl (hs.g 0 rfl) rfl) ?_
         refine rn 2 rfl ?_
         refine bs (f := AV.int .i64) ([IntKind.wrap .i64 (x + 1)] : List Int) hs rfl rfl rfl rfl fun st b_17 hs => ?_
         obtain ⟨g_18, hF⟩ := grd_some hF
         refine ap (ys := ls (some ([IntKind.wrap .i64 (x + 1)] : List Int))) hs 2 rfl rfl (ae_rd (rd_W (o := (some ([IntKind.wrap .i64 (x + 1)] : List Int))) (id := b_17) rfl)) g_18 (fun _ => rfl) fun st b_19 hs => ?_
         refine so hs 1 rfl rfl rfl ownV_c rfl (cs' := [ownV 1 (AV.int .i64) (sapp zz.2.2.1 (ls (some ([IntKind.wrap .i64 (x + 1)] : List Int)))) b_19]) rfl rfl fun st hs => ?_
         refine rn 0 rfl ?_
         have hs : SH st (bx58_o io2 (sapp zz.2.2.1 (ls (some ([IntKind.wrap .i64 (x + 1)] : List Int)))) :: _) := SH.bx1c b_19 (hs.p 7 [1, 1, 0, 0, 0, 0, 0] rfl)
         cases hF
         exact rdN (hs.p 6 [3, 3, 3, 0] rfl) (fun st hs => hK st hs)
       · refine rn 0 rfl ?_
         cases hF
         exact rdN (hs.p 5 [1, 1, 1, 1] rfl) (fun st hs => hK st hs)
     · refine dfx 49 rfl c_10 ?_
       refine dn 5 rfl ?_
       refine dz ?_
       refine rn 3 rfl ?_
       refine cf rfl rfl ?_
       refine rn 0 rfl ?_
       cases hF
       exact rdN (hs.p 5 [1, 1, 1, 1] rfl) (fun st hs => hK st hs)
   · refine dfx 43 rfl c_9 ?_
     refine dn 11 rfl ?_
     refine dz ?_
     refine rn 3 rfl ?_
     refine cf rfl rfl ?_
     refine rn 0 rfl ?_
     cases hF
     exact rdN (hs.p 5 [1, 1, 1, 1] rfl) (fun st hs => hK st hs)
inductive St38 where
 | p1 (p : T45) (s : Str) (t6_ : Sl Int) (now : Sl Int) (out : Sl Int) (place : Int)
 | p2 (p : T45) (s : Str) (t6_ : Sl Int) (now : Sl Int) (t24_ : T45) (t24_2 : Sl Int) (t24_3 : Int) (t24_4 : Str) (out : Sl Int) (place : Int) (next : Sl Int)
noncomputable def G38 : St38 → Option (Sl Int) | .p1 p s t6_ now out place => (if (decide (((ls now).length : Int) > 0)) = true then (F56 p s place now >>= fun r_8 => (G38 (.p2 p s t6_ now r_8.1 r_8.2.1 r_8.2.2.1 r_8.2.2.2 out place (none : Sl Int)))) else (some out)) | .p2 p s t6_ now t24_ t24_2 t24_3 t24_4 out place next => (F85 (B38_1 p s t6_ now t24_ t24_2 t24_3 t24_4) t24_ t24_2 t24_3 t24_4 (out, place, next, 0) >>= fun r_11 => (if r_11.2.2.2 = 0 then (G38 (.p1 p s t6_ r_11.2.2.1 r_11.1 (IntKind.wrap .i64 (r_11.2.1 + 1)))) else none)) partial_fixpoint
def M38 (x : St38) (r : Sl Int) : Prop := match x with | .p1 p s t6_ now out place => ∀ (tm : Fr) (st : Store) (io0 : Nat) (io1 : Nat), Frm tm [(3, .dptr (c45 p)), (4, .dptr (cS s)), (6, slV 1 (AV.int .i64) t6_), (7, .ptr io0 0), (8, slV 1 (AV.int .i64) now), (9, .ptr io1 0)] → SH st [bx58_o io0 out, pt io1 (.cells (cI .i64 place))] → W (X38 r) [.lp C38_12, .blk 0, .code C38_47] tm st | .p2 p s t6_ now t24_ t24_2 t24_3 t24_4 out place next => ∀ (tm : Fr) (st : Store) (io0 : Nat) (io1 : Nat) (io2 : Nat), Frm tm [(3, .dptr (c45 p)), (4, .dptr (cS s)), (6, slV 1 (AV.int .i64) t6_), (7, .ptr io0 0), (8, slV 1 (AV.int .i64) now), (9, .ptr io1 0), (10, .ptr io2 0), (24, .fn 85 [.dptr (c45 t24_), .dptr (cSl 1 (AV.int .i64) t24_2), .dptr (cI .i64 t24_3), .dptr (cS t24_4)])] → SH st [bx58_o io0 out, pt io1 (.cells (cI .i64 place)), bx58_o io2 next] → W (X38 r) [.code C38_26, .blk 2, .code C38_41, .blk 1, .code C38_42, .lp C38_12, .blk 0, .code C38_47] tm st
theorem w38 : ∀ (x : St38) (r : Sl Int), G38 x = some r → M38 x r := by
 refine G38.partial_correctness (M38) ?_
 intro g ih x r hF
 cases x with
 | p1 p s t6_ now out place =>
  dsimp only at hF
  intro tm st io0 io1 hf hs
  refine en hf ?_
  refine lp ?_
  refine rn 1 rfl ?_
  refine W.o (e_len (rd_V rfl)) ?_
  refine rn 1 rfl ?_
  refine ci hF rfl (fun c_5 hF => ?_) (fun c_5 hF => ?_)
  · have hs := hs.ownNil Int
    refine rn 0 rfl ?_
    refine al hs (cs := [ownV 1 (AV.int .i64) (none : Sl Int) 0]) rfl fun st b_6 hs => ?_
    refine rn 0 rfl ?_
    refine W.o (lND (s := c45 p) rfl rfl rfl) ?_
    refine W.o (l1D rfl rfl) ?_
    refine W.o (l1 rfl (hs.g 3 rfl) rfl) ?_
    obtain ⟨r_8, g_9, hF⟩ := bind_some hF
    refine rn 1 rfl ?_
    refine df (d56 p s place now _ g_9) rfl ?_
    refine rj 0 2 rfl ?_
    have hs : SH st (bx58_o b_6 (none : Sl Int) :: _) := SH.bx1c 0 (hs.p 4 [0, 0, 0, 0] rfl)
    exact ih (.p2 p s t6_ now r_8.1 r_8.2.1 r_8.2.2.1 r_8.2.2.2 out place (none : Sl Int)) _ hF _ _ io0 io1 b_6 ⟨rfl, rfl, rfl, rfl, rfl, rfl, rfl, rfl, trivial⟩ (hs.p 3 [1, 1, 0] rfl)
  · obtain ⟨j_10, hs⟩ := SH.bx1o hs
    refine rn 0 rfl ?_
    refine W.o (l1 rfl (hs.g 0 rfl) rfl) ?_
    refine rn 1 rfl ?_
    cases hF
    exact rD' (rlt rl0) dsw
 | p2 p s t6_ now t24_ t24_2 t24_3 t24_4 out place next =>
  dsimp only at hF
  intro tm st io0 io1 io2 hf hs
  obtain ⟨r_11, g_12, hF⟩ := bind_some hF
  refine rg (N := 65) (fr := []) rfl hs hf.2.2.2.2.2.2.2.1 (by kernel_rfl) fun ca cb st iL q1 q2 hs => ?_
  refine d85 (σ := (Sl Int) × Int × (Sl Int) × Nat) (H := fun zz => bun [pt iL (.loop 65 [25] ca cb tm (lsW zz.2.2.2) (ljW [] zz.2.2.2)), bx58_o io0 zz.1, pt io1 (.cells (cI .i64 zz.2.1)), bx58_o io2 zz.2.2.1]) (Y := B38_1 p s t6_ now t24_ t24_2 t24_3 t24_4) iL (fun x zz r hB K L st hs hK => b38_1 p s t6_ now t24_ t24_2 t24_3 t24_4 x zz r hB K L iL ca cb tm io0 io1 io2 q1 q2 hf hK st hs) t24_ t24_2 t24_3 t24_4 (out, place, next, 0) _ g_12 _ _ (fun st hs => ?_) _ (SH.bun hs)
  replace hs : SH st ([pt iL (.loop 65 [25] ca cb tm (lsW r_11.2.2.2) (ljW [] r_11.2.2.2)), bx58_o io0 r_11.1, pt io1 (.cells (cI .i64 r_11.2.1)), bx58_o io2 r_11.2.2.1] ++ _) := SH.unbun hs
  refine ni hF (fun c_ hF => ?_) (fun c_ hF => ?_)
  · rw [c_] at hs
    refine rgN hs (by decide) fun st hs => ?_
    refine en hf ?_
    have hs := (hs.p 3 [2, 0, 0] rfl)
    obtain ⟨j_13, hs⟩ := SH.bx1o hs
    refine rn 0 rfl ?_
    refine W.o (l1 rfl (hs.g 0 rfl) rfl) ?_
    refine rn 1 rfl ?_
    refine W.o (l1 rfl (hs.g 3 rfl) rfl) ?_
    refine rn 0 rfl ?_
    refine al hs (cs := cI .i64 0) rfl fun st b_14 hs => ?_
    refine sr hs 0 rfl rfl rfl (cs' := cI .i64 r_11.2.1) rfl rfl fun st hs => ?_
    refine rn 0 rfl ?_
    refine W.o (l1 rfl (hs.g 0 rfl) rfl) ?_
    refine rn 1 rfl ?_
    refine sr hs 0 rfl rfl rfl (cs' := cI .i64 (IntKind.wrap .i64 (r_11.2.1 + 1))) rfl rfl fun st hs => ?_
    refine rn 0 rfl ?_
    have hs : SH st (bx58_o io2 r_11.2.2.1 :: _) := SH.bx1c j_13 (hs.p 5 [1, 1, 0, 0, 0] rfl)
    refine wkl (weak_strp (S := [8]) ⟨(dsw (es := 1) (f := AV.int .i64) (o := r_11.2.2.1) (id := j_13)).1, trivial⟩) ?_
    exact ih (.p1 p s t6_ r_11.2.2.1 r_11.1 (IntKind.wrap .i64 (r_11.2.1 + 1))) _ hF _ _ io0 b_14 ⟨rfl, rfl, rfl, rfl, (dsw (es := 1) (f := AV.int .i64) (o := r_11.2.2.1) (id := j_13)).2, rfl, trivial⟩ (hs.p 4 [2, 1] rfl)
  · cases hF
noncomputable def F38 (p : T45) (s : Str) (from_ : Int) : Option (Sl Int) := (G38 (.p1 p s none (some ([0] : List Int)) (none : Sl Int) from_))
theorem d38 (p : T45) (s : Str) (from_ : Int) (r : Sl Int) (hF : F38 p s from_ = some r) : DFun Tryd.prog gE 38 [v45 p, AV.str s, AV.int .i64 from_] (slV 1 (AV.int .i64) r) := by
 unfold F38 at hF
 refine bD k38 rfl ?_
 have hs : SH [] [] := SH.nil
 generalize ([] : Store) = st at hs ⊢
 refine rn 0 rfl ?_
 refine W.o (e_boxD (cs := c45 p) rfl rfl (c45_one _)) ?_
 refine W.o (e_boxD (cs := cS s) rfl rfl rfl) ?_
 have hs := hs.ownNil Int
 refine rn 1 rfl ?_
 refine al hs (cs := [ownV 1 (AV.int .i64) (none : Sl Int) 0]) rfl fun st b_1 hs => ?_
 refine rn 0 rfl ?_
 refine bs (f := AV.int .i64) ([0] : List Int) hs rfl rfl rfl rfl fun st b_3 hs => ?_
 refine rn 2 rfl ?_
 refine al hs (cs := cI .i64 0) rfl fun st b_4 hs => ?_
 refine sr hs 0 rfl rfl rfl (cs' := cI .i64 from_) rfl rfl fun st hs => ?_
 refine rn 0 rfl ?_
 have hs : SH st (bx58_o b_1 (none : Sl Int) :: _) := SH.bx1c 0 (hs.p 4 [2, 2, 0, 0] rfl)
 refine wkl (weak_strp (S := [8]) ⟨(dsw (es := 1) (f := AV.int .i64) (o := (some ([0] : List Int))) (id := b_3)).1, trivial⟩) ?_
 exact w38 (.p1 p s none (some ([0] : List Int)) (none : Sl Int) from_) _ hF _ _ b_1 b_4 ⟨rfl, rfl, rfl, rfl, (dsw (es := 1) (f := AV.int .i64) (o := (some ([0] : List Int))) (id := b_3)).2, rfl, trivial⟩ (hs.p 3 [0, 0] rfl)
def C84_1 : ACode := .s (.ops [q 1 (.boxD 9 0), q 2 (.mv (.c (.bool false)))]) (.s (.ops [q 3 (.faddr 0 1), q 4 (.load1 3), q 5 (.binI .eql 4 (ku 9)), q 2 (.mv 5)]) .ret)
def R84 : List RA := [(.tmp 2)]
theorem k84 : compF Tryd.prog (muL [1]) 84 = some ⟨6, C84_1, R84⟩ := by kernel_rfl
noncomputable abbrev X84 (r : Bool) : Cx := cD Tryd.prog gE 6 R84 (AV.bool r) [1]
noncomputable def F84 (x_ : T76) : Option Bool := (some (x_.Kind == 9))
theorem d84 (x_ : T76) (r : Bool) (hF : F84 x_ = some r) : DFun Tryd.prog gE 84 [v76 x_] (AV.bool r) := by
 unfold F84 at hF
 refine bD k84 rfl ?_
 have hs : SH [] [] := SH.nil
 generalize ([] : Store) = st at hs ⊢
 refine rn 0 rfl ?_
 refine W.o (e_boxD (cs := c76 x_) rfl rfl rfl) ?_
 refine rn 1 rfl ?_
 refine W.o (e_faddrD rfl) ?_
 refine W.o (l1D rfl rfl) ?_
 refine rn 2 rfl ?_
 cases hF
 exact rD (rlt rl0) rfl
def C94_20 : ACode := .cond 16 (.s (.ops [q 17 (.mv 5), q 4 (.mv 17)]) .ret) .skip
def C94_8 : ACode := .s (.ops [q 9 (.binI .lss 8 7)]) (.s (.cond 9 .skip (.exit 0)) (.s (.block 1 (.s (.ops [q 10 (.mv 8), q 5 (.mv 10)]) (.s (.ops [q 11 (.mv 1), q 12 (.mv 0), q 13 (.mv 5), q 14 (.iaddrL 9 12 13), q 15 (.loadN 9 14), qf 16 11 [15]]) C94_20))) (.ops [q 18 (.binI .add 8 (ki 1)), q 8 (.mv 18)])))
def C94_26 : ACode := .s (.ops [q 4 (.mv (ki (-1)))]) .ret
def C94_1 : ACode := .s (.ops [q 4 (.mv (ki 0))]) (.s (.s (.ops [q 6 (.mv 0), q 7 (.len 6), q 8 (.mv (ki 0))]) (.block 0 (.loop C94_8))) C94_26)
def R94 : List RA := [(.tmp 4)]
theorem k94 : compF Tryd.prog (muL []) 94 = some ⟨19, C94_1, R94⟩ := by kernel_rfl
noncomputable abbrev X94 (r : Int) : Cx := cD Tryd.prog gE 19 R94 (AV.int .i64 r)
inductive St94 where
 | p1 (s : Sl T76) (t7_ : Int) (t8_ : Int)
noncomputable def G94 : St94 → Option Int | .p1 s t7_ t8_ => (if (decide (t8_ < t7_)) = true then (ix (ls s) t8_ >>= fun v_2 => (F84 v_2 >>= fun r_4 => (if r_4 = true then (some t8_) else (G94 (.p1 s t7_ (IntKind.wrap .i64 (t8_ + 1))))))) else (some (-1))) partial_fixpoint
def M94 (x : St94) (r : Int) : Prop := match x with | .p1 s t7_ t8_ => ∀ (tm : Fr) (st : Store), Frm tm [(0, slV 9 v76 s), (1, .fn 84 []), (7, AV.int .i64 t7_), (8, AV.int .i64 t8_)] → SH st [] → W (X94 r) [.lp C94_8, .blk 0, .code C94_26] tm st
theorem w94 : ∀ (x : St94) (r : Int), G94 x = some r → M94 x r := by
 refine G94.partial_correctness (M94) ?_
 intro g ih x r hF
 cases x with
 | p1 s t7_ t8_ =>
  dsimp only at hF
  intro tm st hf hs
  refine en hf ?_
  refine lp ?_
  refine rn 1 rfl ?_
  refine ci hF rfl (fun c_1 hF => ?_) (fun c_1 hF => ?_)
  · obtain ⟨v_2, g_3, hF⟩ := bind_some hF
    refine rn 5 rfl ?_
    refine W.o (e_iaddrL (rd_V rfl) rfl g_3) ?_
    refine W.o (lND (s := c76 v_2) rfl rfl rfl) ?_
    obtain ⟨r_4, g_5, hF⟩ := bind_some hF
    refine cvd rfl (by kernel_rfl) (d84 v_2 _ g_5) rfl ?_
    refine rn 0 rfl ?_
    refine ci hF rfl (fun c_6 hF => ?_) (fun c_6 hF => ?_)
    · refine rn 2 rfl ?_
      cases hF
      exact rD (rlt rl0) rfl
    · refine rn 2 rfl ?_
      exact ih (.p1 s t7_ (IntKind.wrap .i64 (t8_ + 1))) _ hF _ _ ⟨rfl, rfl, rfl, rfl, trivial⟩ hs
  · refine rn 1 rfl ?_
    cases hF
    exact rD (rlt rl0) rfl
noncomputable def F94 (s : Sl T76) : Option Int := (G94 (.p1 s ((ls s).length : Int) 0))
theorem d94 (s : Sl T76) (r : Int) (hF : F94 s = some r) : DFun Tryd.prog gE 94 [slV 9 v76 s, .fn 84 []] (AV.int .i64 r) := by
 unfold F94 at hF
 refine bD k94 rfl ?_
 have hs : SH [] [] := SH.nil
 generalize ([] : Store) = st at hs ⊢
 refine rn 2 rfl ?_
 refine W.o (e_len (rd_V rfl)) ?_
 refine rn 1 rfl ?_
 exact w94 (.p1 s ((ls s).length : Int) 0) _ hF _ _ ⟨rfl, rfl, rfl, rfl, trivial⟩ hs
end Go.Proofs.YtcidnoghoifmmaaDoor
end
section
/-
  Functions of the program's as plain functions.
-/

set_option linter.unusedVariables false
set_option linter.unusedSimpArgs false
set_option maxRecDepth 4000
set_option maxHeartbeats 4000000
namespace Go.Proofs.YtcidnoghoifmmaaDoor
open Go AW
attribute [local irreducible] W WD SH XS XLoop DFun XCall XYield
def C83_1 : ACode := .s (.ops [q 4 (.mv (.c (.bool false)))]) (.s (.ops [q 5 (.mv 0), q 6 (.mv 1), qc 7 94 [5, 6], q 8 (.binI .geq 7 (ki 0)), q 4 (.mv 8)]) .ret)
def R83 : List RA := [(.tmp 4)]
theorem k83 : compF Tryd.prog (muL []) 83 = some ⟨9, C83_1, R83⟩ := by kernel_rfl
noncomputable abbrev X83 (r : Bool) : Cx := cD Tryd.prog gE 9 R83 (AV.bool r)
noncomputable def F83 (s : Sl T76) : Option Bool := (F94 s >>= fun r_1 => (some (decide (r_1 ≥ 0))))
theorem d83 (s : Sl T76) (r : Bool) (hF : F83 s = some r) : DFun Tryd.prog gE 83 [slV 9 v76 s, .fn 84 []] (AV.bool r) := by
 unfold F83 at hF
 refine bD k83 rfl ?_
 have hs : SH [] [] := SH.nil
 generalize ([] : Store) = st at hs ⊢
 obtain ⟨r_1, g_2, hF⟩ := bind_some hF
 refine rn 3 rfl ?_
 refine df (d94 s _ g_2) rfl ?_
 refine rn 2 rfl ?_
 cases hF
 exact rD (rlt rl0) rfl
def C55_1 : ACode := .s (.ops [q 1 (.boxD 3 0), q 2 (.mv (.c (.bool false)))]) (.s (.ops [q 3 (.faddr 2 1), q 4 (.load1 3), qc 5 83 [4, (.c (.fn 84 []))], q 2 (.mv 5)]) .ret)
def R55 : List RA := [(.tmp 2)]
theorem k55 : compF Tryd.prog (muL [1]) 55 = some ⟨6, C55_1, R55⟩ := by kernel_rfl
noncomputable abbrev X55 (r : Bool) : Cx := cD Tryd.prog gE 6 R55 (AV.bool r) [1]
noncomputable def F55 (p : T45) : Option Bool := (F83 p.Code >>= fun r_1 => (some r_1))
theorem d55 (p : T45) (r : Bool) (hF : F55 p = some r) : DFun Tryd.prog gE 55 [v45 p] (AV.bool r) := by
 unfold F55 at hF
 refine bD k55 rfl ?_
 have hs : SH [] [] := SH.nil
 generalize ([] : Store) = st at hs ⊢
 refine rn 0 rfl ?_
 refine W.o (e_boxD (cs := c45 p) rfl rfl (c45_one _)) ?_
 refine rn 1 rfl ?_
 refine W.o (e_faddrD rfl) ?_
 refine W.o (l1D rfl (by first | rfl | (rw [slV_cells]; rfl))) ?_
 obtain ⟨r_1, g_2, hF⟩ := bind_some hF
 refine df (d83 p.Code _ g_2) rfl ?_
 refine rn 1 rfl ?_
 cases hF
 exact rD (rlt rl0) rfl
def O54_7o1 : List AOp := (q 35 (.binI .gtr 34 (ki 16384))).n 33 :: q 36 (.pick 33 (.c (.bool true)) 35) :: []
def O54_7o0 : List AOp := q 11 (.faddr 0 1) :: q 12 (.load1 11) :: q 13 (.binI .lss 12 (ki 0)) :: q 14 (.mv 13) :: (q 15 (.faddr 0 1)).n 14 :: (q 16 (.load1 15)).n 14 :: (q 17 (.binI .gtr 16 (ki 99))).n 14 :: q 18 (.pick 14 (.c (.bool true)) 17) :: q 19 (.mv 18) :: (q 20 (.faddr 1 1)).n 19 :: (q 21 (.load1 20)).n 19 :: (q 22 (.binI .lss 21 (ki 0))).n 19 :: q 23 (.pick 19 (.c (.bool true)) 22) :: q 24 (.mv 23) :: (q 25 (.faddr 1 1)).n 24 :: (q 26 (.load1 25)).n 24 :: (q 27 (.binI .gtr 26 (ki 16384))).n 24 :: q 28 (.pick 24 (.c (.bool true)) 27) :: q 29 (.mv 28) :: (q 30 (.mv 3)).n 29 :: (q 31 (.binI .lss 30 (ki 1))).n 29 :: q 32 (.pick 29 (.c (.bool true)) 31) :: q 33 (.mv 32) :: (q 34 (.mv 3)).n 33 :: O54_7o1
def C54_47 : ACode := .s (.ops [q 58 (.faddr 5 5), q 59 (.load1 58), q 60 (.faddr 5 6), q0 (.store 1 60 59)]) (.ops [q 61 (.faddr 5 5), q 62 (.load1 61), q 63 (.binI .geq 62 (ki 0)), q 64 (.mv 63), (q 65 (.faddr 5 5)).y 64, (q 66 (.load1 65)).y 64, (q 67 (.mv 3)).y 64, (q 68 (.binI .lss 66 67)).y 64, q 69 (.pick 64 68 (.c (.bool false))), q 7 (.mv 69)])
def C54_53 : ACode := .cond 70 .skip (.s (.ops [q 72 (.binI .eql 49 (ku 5)), q 70 (.mv 72)]) (.cond 70 .skip (.ops [q 73 (.binI .eql 49 (ku 9)), q 70 (.mv 73)])))
def C54_61 : ACode := .s (.ops [q 74 (.faddr 6 5), q 75 (.load1 74), q 76 (.faddr 6 6), q0 (.store 1 76 75)]) (.ops [q 77 (.faddr 6 5), q 78 (.load1 77), q 79 (.binI .geq 78 (ki 1)), q 80 (.mv 79), (q 81 (.faddr 6 5)).y 80, (q 82 (.load1 81)).y 80, (q 83 (.faddr 0 1)).y 80, (q 84 (.load1 83)).y 80, (q 85 (.binI .leq 82 84)).y 80, q 86 (.pick 80 85 (.c (.bool false))), q 7 (.mv 86)])
def O54_69o1 : List AOp := q 7 (.mv 118) :: []
def O54_69o0 : List AOp := q 95 (.faddr 6 5) :: q 96 (.load1 95) :: q 97 (.binI .geq 96 (ki 1)) :: q 98 (.mv 97) :: (q 99 (.faddr 6 5)).y 98 :: (q 100 (.load1 99)).y 98 :: (q 101 (.faddr 0 1)).y 98 :: (q 102 (.load1 101)).y 98 :: (q 103 (.binI .leq 100 102)).y 98 :: q 104 (.pick 98 103 (.c (.bool false))) :: q 105 (.mv 104) :: (q 106 (.faddr 7 5)).y 105 :: (q 107 (.load1 106)).y 105 :: (q 108 (.faddr 6 5)).y 105 :: (q 109 (.load1 108)).y 105 :: (q 110 (.binI .geq 107 109)).y 105 :: q 111 (.pick 105 110 (.c (.bool false))) :: q 112 (.mv 111) :: (q 113 (.faddr 7 5)).y 112 :: (q 114 (.load1 113)).y 112 :: (q 115 (.faddr 0 1)).y 112 :: (q 116 (.load1 115)).y 112 :: (q 117 (.binI .leq 114 116)).y 112 :: q 118 (.pick 112 117 (.c (.bool false))) :: O54_69o1
def C54_77 : ACode := .s (.ops [q 122 (.faddr 8 5), q 123 (.load1 122), q 124 (.faddr 8 6), q0 (.store 1 124 123)]) (.ops [q 125 (.faddr 8 5), q 126 (.load1 125), q 127 (.binI .geq 126 (ki 0)), q 128 (.mv 127), (q 129 (.faddr 8 5)).y 128, (q 130 (.load1 129)).y 128, (q 131 (.faddr 1 1)).y 128, (q 132 (.load1 131)).y 128, (q 133 (.binI .lss 130 132)).y 128, q 134 (.pick 128 133 (.c (.bool false))), q 7 (.mv 134)])
def C54_64 : ACode := .s (.ops [q 88 (.binI .eql 49 (ku 6)), q 87 (.mv 88)]) (.cond 87 (.s (.draw [6] 0 0 [q 89 (.faddr 6 5), q 90 (.load1 89), q 91 (.faddr 7 5), q 92 (.load1 91), q 93 (.faddr 6 6), q0 (.store 1 93 90), q 94 (.faddr 7 6), q0 (.store 1 94 92)] []) (.ops O54_69o0)) (.s (.s (.ops [q 120 (.binI .eql 49 (ku 7)), q 119 (.mv 120)]) (.cond 119 .skip (.ops [q 121 (.binI .eql 49 (ku 8)), q 119 (.mv 121)]))) (.cond 119 C54_77 (.s (.s (.ops [q 136 (.binI .eql 49 (ku 10)), q 135 (.mv 136)]) (.cond 135 .skip (.s (.ops [q 137 (.binI .eql 49 (ku 11)), q 135 (.mv 137)]) (.cond 135 .skip (.ops [q 138 (.binI .eql 49 (ku 12)), q 135 (.mv 138)]))))) (.cond 135 .skip (.s (.ops [q 2 (.mv (.c (.bool false)))]) .ret))))))
def C54_95 : ACode := .s (.ops [q 139 (.mv 7), q 140 (.un .not 139), q 141 (.mv 140), (q 142 (.loadN 9 6)).n 141, (q 143 (.loadN 9 5)).n 141, (q 144 (.eqA true [.i, .i, .i, .i, .i, .i, .i, .i, .i] 142 143)).n 141, q 145 (.pick 141 (.c (.bool true)) 144), q 146 (.mv 145), (q 147 (.faddr 0 5)).n 146, (q 148 (.load1 147)).n 146, (q 149 (.binI .eql 148 (ku 12))).n 146, (q 150 (.mv 4)).n 146, (q 151 (.mv 3)).n 146, (q 152 (.binI .sub 151 (ki 1))).n 146, (q 153 (.binI .eql 150 152)).n 146, (q 154 (.eqB true 149 153)).n 146, q 155 (.pick 146 (.c (.bool true)) 154)]) (.cond 155 (.s (.ops [q 2 (.mv (.c (.bool false)))]) .ret) .skip)
def C54_26 : ACode := .s (.ops [q 42 (.mv 40), q 43 (.iaddrL 9 38 40), q 44 (.loadN 9 43), q 5 (.alloc [(.int .u8 0), (.int .u64 0), (.int .u64 0), (.int .u64 0), (.int .u64 0), (.int .i64 0), (.int .i64 0), (.int .i64 0), (.int .i64 0)]), q 4 (.mv 42), q0 (.store 9 5 44)]) (.s (.ops [q 45 (.faddr 0 5), q 46 (.load1 45), q 47 (.build [(.int .u8 0), (.int .u64 0), (.int .u64 0), (.int .u64 0), (.int .u64 0), (.int .i64 0), (.int .i64 0), (.int .i64 0), (.int .i64 0)] [(0, (1, 46))]), q 6 (.alloc [(.int .u8 0), (.int .u64 0), (.int .u64 0), (.int .u64 0), (.int .u64 0), (.int .i64 0), (.int .i64 0), (.int .i64 0), (.int .i64 0)]), q0 (.store 9 6 47)]) (.s (.ops [q 7 (.mv (.c (.bool true)))]) (.s (.s (.ops [q 48 (.faddr 0 5), q 49 (.load1 48)]) (.block 2 (.s (.ops [q 51 (.binI .eql 49 (ku 1)), q 50 (.mv 51)]) (.cond 50 (.ops [q 52 (.faddr 1 5), q 53 (.loadN 4 52), q 54 (.faddr 1 6), q0 (.store 4 54 53)]) (.s (.s (.ops [q 56 (.binI .eql 49 (ku 2)), q 55 (.mv 56)]) (.cond 55 .skip (.ops [q 57 (.binI .eql 49 (ku 3)), q 55 (.mv 57)]))) (.cond 55 C54_47 (.s (.s (.ops [q 71 (.binI .eql 49 (ku 4)), q 70 (.mv 71)]) C54_53) (.cond 70 C54_61 C54_64)))))))) C54_95)))
def C54_102 : ACode := .ops [q 156 (.binI .add 40 (ki 1)), q 40 (.mv 156)]
def C54_18 : ACode := .s (.ops [q 41 (.binI .lss 40 39)]) (.s (.cond 41 .skip (.exit 0)) (.s (.block 1 C54_26) C54_102))
def C54_103 : ACode := .s (.ops [q 2 (.mv (.c (.bool true)))]) .ret
def C54_1 : ACode := .s (.ops [q 1 (.boxD 3 0), q 2 (.mv (.c (.bool false)))]) (.s (.ops [q 8 (.faddr 2 1), q 9 (.load1 8), q 10 (.len 9), q 3 (.mv 10)]) (.s (.s (.ops O54_7o0) (.cond 36 (.s (.ops [q 2 (.mv (.c (.bool false)))]) .ret) .skip)) (.s (.s (.ops [q 37 (.faddr 2 1), q 38 (.load1 37), q 39 (.len 38), q 40 (.mv (ki 0))]) (.block 0 (.loop C54_18))) C54_103)))
def R54 : List RA := [(.tmp 2)]
theorem k54 : compF Tryd.prog (muL [1]) 54 = some ⟨157, C54_1, R54⟩ := by kernel_rfl
noncomputable abbrev X54 (r : Bool) : Cx := cD Tryd.prog gE 157 R54 (AV.bool r) [1]
inductive St54 where
 | p1 (p : T45) (n : Int) (t38_ : Sl T76) (t39_ : Int) (t40_ : Int)
 | p2 (p : T45) (n : Int) (i : Int) (ok : Bool) (t38_ : Sl T76) (t39_ : Int) (t40_ : Int) (x_ : T76) (plain : T76)
 | p3 (p : T45) (n : Int) (i : Int) (t38_ : Sl T76) (t39_ : Int) (t40_ : Int) (x_ : T76) (plain : T76)
 | p4 (p : T45) (n : Int) (i : Int) (t38_ : Sl T76) (t39_ : Int) (t40_ : Int) (x_ : T76) (plain : T76)
 | p5 (p : T45) (n : Int) (i : Int) (t38_ : Sl T76) (t39_ : Int) (t40_ : Int) (x_ : T76) (plain : T76)
noncomputable def G54 : St54 → Option Bool | .p1 p n t38_ t39_ t40_ => (if (decide (t40_ < t39_)) = true then (ix (ls t38_) t40_ >>= fun v_8 => (if (v_8.Kind == 1) = true then (G54 (.p2 p n t40_ true t38_ t39_ t40_ v_8 ({ Kind := v_8.Kind, Set := v_8.Set, To := 0, Group := 0, Last := 0, Slot := 0 } : T76))) else (if (v_8.Kind == 2) = true then (G54 (.p3 p n t40_ t38_ t39_ t40_ v_8 ({ Kind := v_8.Kind, Set := (Arr.rep 4 (0 : Int)), To := 0, Group := 0, Last := 0, Slot := 0 } : T76))) else (if (v_8.Kind == 3) = true then (G54 (.p3 p n t40_ t38_ t39_ t40_ v_8 ({ Kind := v_8.Kind, Set := (Arr.rep 4 (0 : Int)), To := 0, Group := 0, Last := 0, Slot := 0 } : T76))) else (if (v_8.Kind == 4) = true then (G54 (.p4 p n t40_ t38_ t39_ t40_ v_8 ({ Kind := v_8.Kind, Set := (Arr.rep 4 (0 : Int)), To := 0, Group := 0, Last := 0, Slot := 0 } : T76))) else (if (v_8.Kind == 5) = true then (G54 (.p4 p n t40_ t38_ t39_ t40_ v_8 ({ Kind := v_8.Kind, Set := (Arr.rep 4 (0 : Int)), To := 0, Group := 0, Last := 0, Slot := 0 } : T76))) else (if (v_8.Kind == 9) = true then (G54 (.p4 p n t40_ t38_ t39_ t40_ v_8 ({ Kind := v_8.Kind, Set := (Arr.rep 4 (0 : Int)), To := 0, Group := 0, Last := 0, Slot := 0 } : T76))) else (if (v_8.Kind == 6) = true then (if (decide (v_8.Group ≥ 1)) = true then (if (decide (v_8.Group ≤ p.Groups)) = true then (if (decide (v_8.Last ≥ v_8.Group)) = true then (G54 (.p2 p n t40_ (decide (v_8.Last ≤ p.Groups)) t38_ t39_ t40_ v_8 ({ Kind := v_8.Kind, Set := (Arr.rep 4 (0 : Int)), To := 0, Group := v_8.Group, Last := v_8.Last, Slot := 0 } : T76))) else (G54 (.p2 p n t40_ false t38_ t39_ t40_ v_8 ({ Kind := v_8.Kind, Set := (Arr.rep 4 (0 : Int)), To := 0, Group := v_8.Group, Last := v_8.Last, Slot := 0 } : T76)))) else (G54 (.p2 p n t40_ false t38_ t39_ t40_ v_8 ({ Kind := v_8.Kind, Set := (Arr.rep 4 (0 : Int)), To := 0, Group := v_8.Group, Last := v_8.Last, Slot := 0 } : T76)))) else (G54 (.p2 p n t40_ false t38_ t39_ t40_ v_8 ({ Kind := v_8.Kind, Set := (Arr.rep 4 (0 : Int)), To := 0, Group := v_8.Group, Last := v_8.Last, Slot := 0 } : T76)))) else (if (v_8.Kind == 7) = true then (G54 (.p5 p n t40_ t38_ t39_ t40_ v_8 ({ Kind := v_8.Kind, Set := (Arr.rep 4 (0 : Int)), To := 0, Group := 0, Last := 0, Slot := 0 } : T76))) else (if (v_8.Kind == 8) = true then (G54 (.p5 p n t40_ t38_ t39_ t40_ v_8 ({ Kind := v_8.Kind, Set := (Arr.rep 4 (0 : Int)), To := 0, Group := 0, Last := 0, Slot := 0 } : T76))) else (if (v_8.Kind == 10) = true then (G54 (.p2 p n t40_ true t38_ t39_ t40_ v_8 ({ Kind := v_8.Kind, Set := (Arr.rep 4 (0 : Int)), To := 0, Group := 0, Last := 0, Slot := 0 } : T76))) else (if (v_8.Kind == 11) = true then (G54 (.p2 p n t40_ true t38_ t39_ t40_ v_8 ({ Kind := v_8.Kind, Set := (Arr.rep 4 (0 : Int)), To := 0, Group := 0, Last := 0, Slot := 0 } : T76))) else (if (v_8.Kind == 12) = true then (G54 (.p2 p n t40_ true t38_ t39_ t40_ v_8 ({ Kind := v_8.Kind, Set := (Arr.rep 4 (0 : Int)), To := 0, Group := 0, Last := 0, Slot := 0 } : T76))) else (some false)))))))))))))) else (some true)) | .p2 p n i ok t38_ t39_ t40_ x_ plain => (if (!ok) = true then (some false) else (if (!decide (plain = x_)) = true then (some false) else (if (!((x_.Kind == 12) == (i == (IntKind.wrap .i64 (n - 1))))) = true then (some false) else (G54 (.p1 p n t38_ t39_ (IntKind.wrap .i64 (t40_ + 1))))))) | .p3 p n i t38_ t39_ t40_ x_ plain => (if (decide (x_.To ≥ 0)) = true then (G54 (.p2 p n i (decide (x_.To < n)) t38_ t39_ t40_ x_ ({ plain with To := x_.To } : T76))) else (G54 (.p2 p n i false t38_ t39_ t40_ x_ ({ plain with To := x_.To } : T76)))) | .p4 p n i t38_ t39_ t40_ x_ plain => (if (decide (x_.Group ≥ 1)) = true then (G54 (.p2 p n i (decide (x_.Group ≤ p.Groups)) t38_ t39_ t40_ x_ ({ plain with Group := x_.Group } : T76))) else (G54 (.p2 p n i false t38_ t39_ t40_ x_ ({ plain with Group := x_.Group } : T76)))) | .p5 p n i t38_ t39_ t40_ x_ plain => (if (decide (x_.Slot ≥ 0)) = true then (G54 (.p2 p n i (decide (x_.Slot < p.Slots)) t38_ t39_ t40_ x_ ({ plain with Slot := x_.Slot } : T76))) else (G54 (.p2 p n i false t38_ t39_ t40_ x_ ({ plain with Slot := x_.Slot } : T76)))) partial_fixpoint
def M54 (x : St54) (r : Bool) : Prop := match x with | .p1 p n t38_ t39_ t40_ => ∀ (tm : Fr) (st : Store), Frm tm [(1, .dptr (c45 p)), (3, AV.int .i64 n), (38, slV 9 v76 t38_), (39, AV.int .i64 t39_), (40, AV.int .i64 t40_)] → SH st [] → W (X54 r) [.lp C54_18, .blk 0, .code C54_103] tm st | .p2 p n i ok t38_ t39_ t40_ x_ plain => ∀ (tm : Fr) (st : Store) (io0 : Nat) (io1 : Nat), Frm tm [(1, .dptr (c45 p)), (3, AV.int .i64 n), (4, AV.int .i64 i), (5, .ptr io0 0), (6, .ptr io1 0), (7, AV.bool ok), (38, slV 9 v76 t38_), (39, AV.int .i64 t39_), (40, AV.int .i64 t40_)] → SH st [pt io0 (.cells (c76 x_)), pt io1 (.cells (c76 plain))] → W (X54 r) [.code C54_95, .blk 1, .code C54_102, .lp C54_18, .blk 0, .code C54_103] tm st | .p3 p n i t38_ t39_ t40_ x_ plain => ∀ (tm : Fr) (st : Store) (io0 : Nat) (io1 : Nat), Frm tm [(1, .dptr (c45 p)), (3, AV.int .i64 n), (4, AV.int .i64 i), (5, .ptr io0 0), (6, .ptr io1 0), (38, slV 9 v76 t38_), (39, AV.int .i64 t39_), (40, AV.int .i64 t40_)] → SH st [pt io0 (.cells (c76 x_)), pt io1 (.cells (c76 plain))] → W (X54 r) [.code C54_47, .blk 2, .code C54_95, .blk 1, .code C54_102, .lp C54_18, .blk 0, .code C54_103] tm st | .p4 p n i t38_ t39_ t40_ x_ plain => ∀ (tm : Fr) (st : Store) (io0 : Nat) (io1 : Nat), Frm tm [(1, .dptr (c45 p)), (3, AV.int .i64 n), (4, AV.int .i64 i), (5, .ptr io0 0), (6, .ptr io1 0), (38, slV 9 v76 t38_), (39, AV.int .i64 t39_), (40, AV.int .i64 t40_)] → SH st [pt io0 (.cells (c76 x_)), pt io1 (.cells (c76 plain))] → W (X54 r) [.code C54_61, .blk 2, .code C54_95, .blk 1, .code C54_102, .lp C54_18, .blk 0, .code C54_103] tm st | .p5 p n i t38_ t39_ t40_ x_ plain => ∀ (tm : Fr) (st : Store) (io0 : Nat) (io1 : Nat), Frm tm [(1, .dptr (c45 p)), (3, AV.int .i64 n), (4, AV.int .i64 i), (5, .ptr io0 0), (6, .ptr io1 0), (38, slV 9 v76 t38_), (39, AV.int .i64 t39_), (40, AV.int .i64 t40_)] → SH st [pt io0 (.cells (c76 x_)), pt io1 (.cells (c76 plain))] → W (X54 r) [.code C54_77, .blk 2, .code C54_95, .blk 1, .code C54_102, .lp C54_18, .blk 0, .code C54_103] tm st
theorem w54 : ∀ (x : St54) (r : Bool), G54 x = some r → M54 x r := by
 refine G54.partial_correctness (M54) ?_
 intro g ih x r hF
 cases x with
 | p1 p n t38_ t39_ t40_ =>
  dsimp only at hF
  intro tm st hf hs
  refine en hf ?_
  refine lp ?_
  refine rn 1 rfl ?_
  refine ci hF rfl (fun c_7 hF => ?_) (fun c_7 hF => ?_)
  · obtain ⟨v_8, g_9, hF⟩ := bind_some hF
    refine rn 1 rfl ?_
    refine W.o (e_iaddrL (rd_V rfl) rfl g_9) ?_
    refine W.o (lND (s := c76 v_8) rfl rfl rfl) ?_
    refine al hs (cs := c76 ({ Kind := 0, Set := (Arr.rep 4 (0 : Int)), To := 0, Group := 0, Last := 0, Slot := 0 } : T76)) rfl fun st b_10 hs => ?_
    refine rn 1 rfl ?_
    refine sr hs 0 rfl rfl rfl (cs' := c76 v_8) rfl rfl fun st hs => ?_
    refine rn 0 rfl ?_
    refine W.o (e_faddr rfl (hs.g 0 rfl)) ?_
    refine W.o (l1 rfl (hs.g 0 rfl) rfl) ?_
    refine W.o (bR (cs := c76 ({ Kind := v_8.Kind, Set := (Arr.rep 4 (0 : Int)), To := 0, Group := 0, Last := 0, Slot := 0 } : T76)) rfl rfl) ?_
    refine al hs (cs := c76 ({ Kind := 0, Set := (Arr.rep 4 (0 : Int)), To := 0, Group := 0, Last := 0, Slot := 0 } : T76)) rfl fun st b_11 hs => ?_
    refine sr hs 0 rfl rfl rfl (cs' := c76 ({ Kind := v_8.Kind, Set := (Arr.rep 4 (0 : Int)), To := 0, Group := 0, Last := 0, Slot := 0 } : T76)) rfl rfl fun st hs => ?_
    refine rn 1 rfl ?_
    refine W.o (e_faddr rfl (hs.g 1 rfl)) ?_
    refine W.o (l1 rfl (hs.g 1 rfl) rfl) ?_
    refine rn 2 rfl ?_
    refine ci hF rfl (fun c_12 hF => ?_) (fun c_12 hF => ?_)
    · refine rn 0 rfl ?_
      refine W.o (e_faddr rfl (hs.g 1 rfl)) ?_
      refine W.o (lN (s := c24 v_8.Set) rfl (hs.g 1 rfl) rfl rfl) ?_
      refine W.o (e_faddr rfl (hs.g 0 rfl)) ?_
      refine sr hs 0 rfl rfl rfl (cs' := c76 ({ Kind := v_8.Kind, Set := v_8.Set, To := 0, Group := 0, Last := 0, Slot := 0 } : T76)) rfl rfl fun st hs => ?_
      refine rj 0 2 rfl ?_
      exact ih (.p2 p n t40_ true t38_ t39_ t40_ v_8 ({ Kind := v_8.Kind, Set := v_8.Set, To := 0, Group := 0, Last := 0, Slot := 0 } : T76)) _ hF _ _ b_10 b_11 ⟨rfl, rfl, rfl, rfl, rfl, rfl, rfl, rfl, rfl, trivial⟩ (hs.p 2 [1, 0] rfl)
    · refine rn 2 rfl ?_
      refine ci hF rfl (fun c_13 hF => ?_) (fun c_13 hF => ?_)
      · refine rn 0 rfl ?_
        refine ct rfl c_13 ?_
        exact ih (.p3 p n t40_ t38_ t39_ t40_ v_8 ({ Kind := v_8.Kind, Set := (Arr.rep 4 (0 : Int)), To := 0, Group := 0, Last := 0, Slot := 0 } : T76)) _ hF _ _ b_10 b_11 ⟨rfl, rfl, rfl, rfl, rfl, rfl, rfl, rfl, trivial⟩ (hs.p 2 [1, 0] rfl)
      · refine rn 2 rfl ?_
        refine ci hF rfl (fun c_14 hF => ?_) (fun c_14 hF => ?_)
        · exact ih (.p3 p n t40_ t38_ t39_ t40_ v_8 ({ Kind := v_8.Kind, Set := (Arr.rep 4 (0 : Int)), To := 0, Group := 0, Last := 0, Slot := 0 } : T76)) _ hF _ _ b_10 b_11 ⟨rfl, rfl, rfl, rfl, rfl, rfl, rfl, rfl, trivial⟩ (hs.p 2 [1, 0] rfl)
        · refine rn 2 rfl ?_
          refine ci hF rfl (fun c_15 hF => ?_) (fun c_15 hF => ?_)
          · refine rn 0 rfl ?_
            refine ct rfl c_15 ?_
            exact ih (.p4 p n t40_ t38_ t39_ t40_ v_8 ({ Kind := v_8.Kind, Set := (Arr.rep 4 (0 : Int)), To := 0, Group := 0, Last := 0, Slot := 0 } : T76)) _ hF _ _ b_10 b_11 ⟨rfl, rfl, rfl, rfl, rfl, rfl, rfl, rfl, trivial⟩ (hs.p 2 [1, 0] rfl)
          · refine rn 2 rfl ?_
            refine ci hF rfl (fun c_16 hF => ?_) (fun c_16 hF => ?_)
            · refine rn 0 rfl ?_
              refine ct rfl c_16 ?_
              exact ih (.p4 p n t40_ t38_ t39_ t40_ v_8 ({ Kind := v_8.Kind, Set := (Arr.rep 4 (0 : Int)), To := 0, Group := 0, Last := 0, Slot := 0 } : T76)) _ hF _ _ b_10 b_11 ⟨rfl, rfl, rfl, rfl, rfl, rfl, rfl, rfl, trivial⟩ (hs.p 2 [1, 0] rfl)
            · refine rn 2 rfl ?_
              refine ci hF rfl (fun c_17 hF => ?_) (fun c_17 hF => ?_)
              · exact ih (.p4 p n t40_ t38_ t39_ t40_ v_8 ({ Kind := v_8.Kind, Set := (Arr.rep 4 (0 : Int)), To := 0, Group := 0, Last := 0, Slot := 0 } : T76)) _ hF _ _ b_10 b_11 ⟨rfl, rfl, rfl, rfl, rfl, rfl, rfl, rfl, trivial⟩ (hs.p 2 [1, 0] rfl)
              · refine rn 2 rfl ?_
                refine ci hF rfl (fun c_18 hF => ?_) (fun c_18 hF => ?_)
                · refine rn 0 rfl ?_
                  refine dr1 hs 0 rfl rfl rfl fun s_19 st h0 hs => ?_
                  refine de rfl (e_faddr rfl (h0.g 1 rfl)) ?_
                  refine de rfl (l1 rfl (h0.g 1 rfl) rfl) ?_
                  refine de rfl (e_faddr rfl (h0.g 1 rfl)) ?_
                  refine de rfl (l1 rfl (h0.g 1 rfl) rfl) ?_
                  refine de rfl (e_faddrH rfl (h0.g 0 rfl)) ?_
                  refine dsr' h0 0 hs 0 rfl rfl rfl rfl (cs' := c76 ({ Kind := v_8.Kind, Set := (Arr.rep 4 (0 : Int)), To := 0, Group := v_8.Group, Last := 0, Slot := 0 } : T76)) rfl rfl fun st hs => ?_
                  refine de rfl (e_faddrH rfl (h0.g 0 rfl)) ?_
                  refine dsr' h0 0 hs 0 rfl rfl rfl rfl (cs' := c76 ({ Kind := v_8.Kind, Set := (Arr.rep 4 (0 : Int)), To := 0, Group := v_8.Group, Last := v_8.Last, Slot := 0 } : T76)) rfl rfl fun st hs => ?_
                  refine dz ?_
                  refine rn 0 rfl ?_
                  refine W.o (e_faddr rfl (hs.g 1 rfl)) ?_
                  refine W.o (l1 rfl (hs.g 1 rfl) rfl) ?_
                  refine rn 2 rfl ?_
                  refine bi hF (fun c_20 hF => ?_) (fun c_20 hF => ?_)
                  · refine wfx 98 rfl c_20 ?_
                    refine W.on rfl rfl ?_
                    refine W.o (e_faddr rfl (hs.g 1 rfl)) ?_
                    refine W.on rfl rfl ?_
                    refine W.o (l1 rfl (hs.g 1 rfl) rfl) ?_
                    refine W.on rfl rfl ?_
                    refine W.o (e_faddrD rfl) ?_
                    refine W.on rfl rfl ?_
                    refine W.o (l1D rfl rfl) ?_
                    refine rn 3 rfl ?_
                    refine bi hF (fun c_21 hF => ?_) (fun c_21 hF => ?_)
                    · refine wfx 105 rfl c_21 ?_
                      refine W.on rfl rfl ?_
                      refine W.o (e_faddr rfl (hs.g 1 rfl)) ?_
                      refine W.on rfl rfl ?_
                      refine W.o (l1 rfl (hs.g 1 rfl) rfl) ?_
                      refine W.on rfl rfl ?_
                      refine W.o (e_faddr rfl (hs.g 1 rfl)) ?_
                      refine W.on rfl rfl ?_
                      refine W.o (l1 rfl (hs.g 1 rfl) rfl) ?_
                      refine rn 3 rfl ?_
                      refine bi hF (fun c_22 hF => ?_) (fun c_22 hF => ?_)
                      · refine wfx 112 rfl c_22 ?_
                        refine W.on rfl rfl ?_
                        refine W.o (e_faddr rfl (hs.g 1 rfl)) ?_
                        refine W.on rfl rfl ?_
                        refine W.o (l1 rfl (hs.g 1 rfl) rfl) ?_
                        refine W.on rfl rfl ?_
                        refine W.o (e_faddrD rfl) ?_
                        refine W.on rfl rfl ?_
                        refine W.o (l1D rfl rfl) ?_
                        refine rj 3 2 rfl ?_
                        exact ih (.p2 p n t40_ (decide (v_8.Last ≤ p.Groups)) t38_ t39_ t40_ v_8 ({ Kind := v_8.Kind, Set := (Arr.rep 4 (0 : Int)), To := 0, Group := v_8.Group, Last := v_8.Last, Slot := 0 } : T76)) _ hF _ _ b_10 b_11 ⟨rfl, rfl, rfl, rfl, rfl, rfl, rfl, rfl, rfl, trivial⟩ (hs.p 2 [1, 0] rfl)
                      · refine wfx 112 rfl c_22 ?_
                        refine rj 7 2 rfl ?_
                        exact ih (.p2 p n t40_ false t38_ t39_ t40_ v_8 ({ Kind := v_8.Kind, Set := (Arr.rep 4 (0 : Int)), To := 0, Group := v_8.Group, Last := v_8.Last, Slot := 0 } : T76)) _ hF _ _ b_10 b_11 ⟨rfl, rfl, rfl, rfl, rfl, rfl, rfl, rfl, rfl, trivial⟩ (hs.p 2 [1, 0] rfl)
                    · refine wfx 105 rfl c_21 ?_
                      refine rj 14 2 rfl ?_
                      exact ih (.p2 p n t40_ false t38_ t39_ t40_ v_8 ({ Kind := v_8.Kind, Set := (Arr.rep 4 (0 : Int)), To := 0, Group := v_8.Group, Last := v_8.Last, Slot := 0 } : T76)) _ hF _ _ b_10 b_11 ⟨rfl, rfl, rfl, rfl, rfl, rfl, rfl, rfl, rfl, trivial⟩ (hs.p 2 [1, 0] rfl)
                  · refine wfx 98 rfl c_20 ?_
                    refine rj 21 2 rfl ?_
                    exact ih (.p2 p n t40_ false t38_ t39_ t40_ v_8 ({ Kind := v_8.Kind, Set := (Arr.rep 4 (0 : Int)), To := 0, Group := v_8.Group, Last := v_8.Last, Slot := 0 } : T76)) _ hF _ _ b_10 b_11 ⟨rfl, rfl, rfl, rfl, rfl, rfl, rfl, rfl, rfl, trivial⟩ (hs.p 2 [1, 0] rfl)
                · refine rn 2 rfl ?_
                  refine ci hF rfl (fun c_23 hF => ?_) (fun c_23 hF => ?_)
                  · refine rn 0 rfl ?_
                    refine ct rfl c_23 ?_
                    exact ih (.p5 p n t40_ t38_ t39_ t40_ v_8 ({ Kind := v_8.Kind, Set := (Arr.rep 4 (0 : Int)), To := 0, Group := 0, Last := 0, Slot := 0 } : T76)) _ hF _ _ b_10 b_11 ⟨rfl, rfl, rfl, rfl, rfl, rfl, rfl, rfl, trivial⟩ (hs.p 2 [1, 0] rfl)
                  · refine rn 2 rfl ?_
                    refine ci hF rfl (fun c_24 hF => ?_) (fun c_24 hF => ?_)
                    · exact ih (.p5 p n t40_ t38_ t39_ t40_ v_8 ({ Kind := v_8.Kind, Set := (Arr.rep 4 (0 : Int)), To := 0, Group := 0, Last := 0, Slot := 0 } : T76)) _ hF _ _ b_10 b_11 ⟨rfl, rfl, rfl, rfl, rfl, rfl, rfl, rfl, trivial⟩ (hs.p 2 [1, 0] rfl)
                    · refine rn 2 rfl ?_
                      refine ci hF rfl (fun c_25 hF => ?_) (fun c_25 hF => ?_)
                      · refine rn 0 rfl ?_
                        refine ct rfl c_25 ?_
                        refine rj 0 2 rfl ?_
                        exact ih (.p2 p n t40_ true t38_ t39_ t40_ v_8 ({ Kind := v_8.Kind, Set := (Arr.rep 4 (0 : Int)), To := 0, Group := 0, Last := 0, Slot := 0 } : T76)) _ hF _ _ b_10 b_11 ⟨rfl, rfl, rfl, rfl, rfl, rfl, rfl, rfl, rfl, trivial⟩ (hs.p 2 [1, 0] rfl)
                      · refine rn 2 rfl ?_
                        refine ci hF rfl (fun c_26 hF => ?_) (fun c_26 hF => ?_)
                        · refine rn 0 rfl ?_
                          refine ct rfl c_26 ?_
                          refine rj 0 2 rfl ?_
                          exact ih (.p2 p n t40_ true t38_ t39_ t40_ v_8 ({ Kind := v_8.Kind, Set := (Arr.rep 4 (0 : Int)), To := 0, Group := 0, Last := 0, Slot := 0 } : T76)) _ hF _ _ b_10 b_11 ⟨rfl, rfl, rfl, rfl, rfl, rfl, rfl, rfl, rfl, trivial⟩ (hs.p 2 [1, 0] rfl)
                        · refine rn 2 rfl ?_
                          refine ci hF rfl (fun c_27 hF => ?_) (fun c_27 hF => ?_)
                          · refine rj 0 2 rfl ?_
                            exact ih (.p2 p n t40_ true t38_ t39_ t40_ v_8 ({ Kind := v_8.Kind, Set := (Arr.rep 4 (0 : Int)), To := 0, Group := 0, Last := 0, Slot := 0 } : T76)) _ hF _ _ b_10 b_11 ⟨rfl, rfl, rfl, rfl, rfl, rfl, rfl, rfl, rfl, trivial⟩ (hs.p 2 [1, 0] rfl)
                          · refine rn 1 rfl ?_
                            cases hF
                            exact rD (rlt rl0) rfl
  · refine rn 1 rfl ?_
    cases hF
    exact rD (rlt rl0) rfl
 | p2 p n i ok t38_ t39_ t40_ x_ plain =>
  dsimp only at hF
  intro tm st io0 io1 hf hs
  refine en hf ?_
  refine rn 3 rfl ?_
  refine bi hF (fun c_28 hF => ?_) (fun c_28 hF => ?_)
  · refine wfx 141 rfl c_28 ?_
    refine rn 14 rfl ?_
    refine ct rfl rfl ?_
    refine rn 1 rfl ?_
    cases hF
    exact rD (rlt rl0) rfl
  · refine wfx 141 rfl c_28 ?_
    refine W.on rfl rfl ?_
    refine W.o (lN (s := c76 plain) rfl (hs.g 1 rfl) rfl rfl) ?_
    refine W.on rfl rfl ?_
    refine W.o (lN (s := c76 x_) rfl (hs.g 0 rfl) rfl rfl) ?_
    refine W.on rfl rfl ?_
    refine W.o (e_neA rfl rfl (c76_eq plain x_)) ?_
    refine rn 2 rfl ?_
    refine bi hF (fun c_29 hF => ?_) (fun c_29 hF => ?_)
    · refine wfx 146 rfl c_29 ?_
      refine rn 9 rfl ?_
      refine ct rfl rfl ?_
      refine rn 1 rfl ?_
      cases hF
      exact rD (rlt rl0) rfl
    · refine wfx 146 rfl c_29 ?_
      refine W.on rfl rfl ?_
      refine W.o (e_faddr rfl (hs.g 0 rfl)) ?_
      refine W.on rfl rfl ?_
      refine W.o (l1 rfl (hs.g 0 rfl) rfl) ?_
      refine rn 7 rfl ?_
      refine ci hF rfl (fun c_30 hF => ?_) (fun c_30 hF => ?_)
      · refine rn 1 rfl ?_
        cases hF
        exact rD (rlt rl0) rfl
      · refine rn 2 rfl ?_
        exact ih (.p1 p n t38_ t39_ (IntKind.wrap .i64 (t40_ + 1))) _ hF _ _ ⟨rfl, rfl, rfl, rfl, rfl, trivial⟩ (hs.p 2 [] rfl)
 | p3 p n i t38_ t39_ t40_ x_ plain =>
  dsimp only at hF
  intro tm st io0 io1 hf hs
  refine en hf ?_
  refine rn 0 rfl ?_
  refine W.o (e_faddr rfl (hs.g 0 rfl)) ?_
  refine W.o (l1 rfl (hs.g 0 rfl) rfl) ?_
  refine W.o (e_faddr rfl (hs.g 1 rfl)) ?_
  refine sr hs 1 rfl rfl rfl (cs' := c76 ({ plain with To := x_.To } : T76)) rfl rfl fun st hs => ?_
  refine rn 0 rfl ?_
  refine W.o (e_faddr rfl (hs.g 0 rfl)) ?_
  refine W.o (l1 rfl (hs.g 0 rfl) rfl) ?_
  refine rn 2 rfl ?_
  refine bi hF (fun c_31 hF => ?_) (fun c_31 hF => ?_)
  · refine wfx 64 rfl c_31 ?_
    refine W.on rfl rfl ?_
    refine W.o (e_faddr rfl (hs.g 0 rfl)) ?_
    refine W.on rfl rfl ?_
    refine W.o (l1 rfl (hs.g 0 rfl) rfl) ?_
    refine rj 4 2 rfl ?_
    exact ih (.p2 p n i (decide (x_.To < n)) t38_ t39_ t40_ x_ ({ plain with To := x_.To } : T76)) _ hF _ _ io0 io1 ⟨rfl, rfl, rfl, rfl, rfl, rfl, rfl, rfl, rfl, trivial⟩ hs
  · refine wfx 64 rfl c_31 ?_
    refine rj 6 2 rfl ?_
    exact ih (.p2 p n i false t38_ t39_ t40_ x_ ({ plain with To := x_.To } : T76)) _ hF _ _ io0 io1 ⟨rfl, rfl, rfl, rfl, rfl, rfl, rfl, rfl, rfl, trivial⟩ hs
 | p4 p n i t38_ t39_ t40_ x_ plain =>
  dsimp only at hF
  intro tm st io0 io1 hf hs
  refine en hf ?_
  refine rn 0 rfl ?_
  refine W.o (e_faddr rfl (hs.g 0 rfl)) ?_
  refine W.o (l1 rfl (hs.g 0 rfl) rfl) ?_
  refine W.o (e_faddr rfl (hs.g 1 rfl)) ?_
  refine sr hs 1 rfl rfl rfl (cs' := c76 ({ plain with Group := x_.Group } : T76)) rfl rfl fun st hs => ?_
  refine rn 0 rfl ?_
  refine W.o (e_faddr rfl (hs.g 0 rfl)) ?_
  refine W.o (l1 rfl (hs.g 0 rfl) rfl) ?_
  refine rn 2 rfl ?_
  refine bi hF (fun c_32 hF => ?_) (fun c_32 hF => ?_)
  · refine wfx 80 rfl c_32 ?_
    refine W.on rfl rfl ?_
    refine W.o (e_faddr rfl (hs.g 0 rfl)) ?_
    refine W.on rfl rfl ?_
    refine W.o (l1 rfl (hs.g 0 rfl) rfl) ?_
    refine W.on rfl rfl ?_
    refine W.o (e_faddrD rfl) ?_
    refine W.on rfl rfl ?_
    refine W.o (l1D rfl rfl) ?_
    refine rj 3 2 rfl ?_
    exact ih (.p2 p n i (decide (x_.Group ≤ p.Groups)) t38_ t39_ t40_ x_ ({ plain with Group := x_.Group } : T76)) _ hF _ _ io0 io1 ⟨rfl, rfl, rfl, rfl, rfl, rfl, rfl, rfl, rfl, trivial⟩ hs
  · refine wfx 80 rfl c_32 ?_
    refine rj 7 2 rfl ?_
    exact ih (.p2 p n i false t38_ t39_ t40_ x_ ({ plain with Group := x_.Group } : T76)) _ hF _ _ io0 io1 ⟨rfl, rfl, rfl, rfl, rfl, rfl, rfl, rfl, rfl, trivial⟩ hs
 | p5 p n i t38_ t39_ t40_ x_ plain =>
  dsimp only at hF
  intro tm st io0 io1 hf hs
  refine en hf ?_
  refine rn 0 rfl ?_
  refine W.o (e_faddr rfl (hs.g 0 rfl)) ?_
  refine W.o (l1 rfl (hs.g 0 rfl) rfl) ?_
  refine W.o (e_faddr rfl (hs.g 1 rfl)) ?_
  refine sr hs 1 rfl rfl rfl (cs' := c76 ({ plain with Slot := x_.Slot } : T76)) rfl rfl fun st hs => ?_
  refine rn 0 rfl ?_
  refine W.o (e_faddr rfl (hs.g 0 rfl)) ?_
  refine W.o (l1 rfl (hs.g 0 rfl) rfl) ?_
  refine rn 2 rfl ?_
  refine bi hF (fun c_33 hF => ?_) (fun c_33 hF => ?_)
  · refine wfx 128 rfl c_33 ?_
    refine W.on rfl rfl ?_
    refine W.o (e_faddr rfl (hs.g 0 rfl)) ?_
    refine W.on rfl rfl ?_
    refine W.o (l1 rfl (hs.g 0 rfl) rfl) ?_
    refine W.on rfl rfl ?_
    refine W.o (e_faddrD rfl) ?_
    refine W.on rfl rfl ?_
    refine W.o (l1D rfl rfl) ?_
    refine rj 3 2 rfl ?_
    exact ih (.p2 p n i (decide (x_.Slot < p.Slots)) t38_ t39_ t40_ x_ ({ plain with Slot := x_.Slot } : T76)) _ hF _ _ io0 io1 ⟨rfl, rfl, rfl, rfl, rfl, rfl, rfl, rfl, rfl, trivial⟩ hs
  · refine wfx 128 rfl c_33 ?_
    refine rj 7 2 rfl ?_
    exact ih (.p2 p n i false t38_ t39_ t40_ x_ ({ plain with Slot := x_.Slot } : T76)) _ hF _ _ io0 io1 ⟨rfl, rfl, rfl, rfl, rfl, rfl, rfl, rfl, rfl, trivial⟩ hs
noncomputable def F54 (p : T45) : Option Bool := (if (decide (p.Groups < 0)) = true then (some false) else (if (decide (p.Groups > 99)) = true then (some false) else (if (decide (p.Slots < 0)) = true then (some false) else (if (decide (p.Slots > 16384)) = true then (some false) else (if (decide (((ls p.Code).length : Int) < 1)) = true then (some false) else (if (decide (((ls p.Code).length : Int) > 16384)) = true then (some false) else (G54 (.p1 p ((ls p.Code).length : Int) p.Code ((ls p.Code).length : Int) 0))))))))
theorem d54 (p : T45) (r : Bool) (hF : F54 p = some r) : DFun Tryd.prog gE 54 [v45 p] (AV.bool r) := by
 unfold F54 at hF
 refine bD k54 rfl ?_
 have hs : SH [] [] := SH.nil
 generalize ([] : Store) = st at hs ⊢
 refine rn 0 rfl ?_
 refine W.o (e_boxD (cs := c45 p) rfl rfl (c45_one _)) ?_
 refine rn 1 rfl ?_
 refine W.o (e_faddrD rfl) ?_
 refine W.o (l1D rfl (by first | rfl | (rw [slV_cells]; rfl))) ?_
 refine W.o (e_len (rd_V rfl)) ?_
 refine rn 1 rfl ?_
 refine W.o (e_faddrD rfl) ?_
 refine W.o (l1D rfl rfl) ?_
 refine rn 2 rfl ?_
 refine bi hF (fun c_1 hF => ?_) (fun c_1 hF => ?_)
 · refine wfx 14 rfl c_1 ?_
   refine rn 22 rfl ?_
   refine ct rfl rfl ?_
   refine rn 1 rfl ?_
   cases hF
   exact rD (rlt rl0) rfl
 · refine wfx 14 rfl c_1 ?_
   refine W.on rfl rfl ?_
   refine W.o (e_faddrD rfl) ?_
   refine W.on rfl rfl ?_
   refine W.o (l1D rfl rfl) ?_
   refine rn 3 rfl ?_
   refine bi hF (fun c_2 hF => ?_) (fun c_2 hF => ?_)
   · refine wfx 19 rfl c_2 ?_
     refine rn 17 rfl ?_
     refine ct rfl rfl ?_
     refine rn 1 rfl ?_
     cases hF
     exact rD (rlt rl0) rfl
   · refine wfx 19 rfl c_2 ?_
     refine W.on rfl rfl ?_
     refine W.o (e_faddrD rfl) ?_
     refine W.on rfl rfl ?_
     refine W.o (l1D rfl rfl) ?_
     refine rn 3 rfl ?_
     refine bi hF (fun c_3 hF => ?_) (fun c_3 hF => ?_)
     · refine wfx 24 rfl c_3 ?_
       refine rn 12 rfl ?_
       refine ct rfl rfl ?_
       refine rn 1 rfl ?_
       cases hF
       exact rD (rlt rl0) rfl
     · refine wfx 24 rfl c_3 ?_
       refine W.on rfl rfl ?_
       refine W.o (e_faddrD rfl) ?_
       refine W.on rfl rfl ?_
       refine W.o (l1D rfl rfl) ?_
       refine rn 3 rfl ?_
       refine bi hF (fun c_4 hF => ?_) (fun c_4 hF => ?_)
       · refine wfx 29 rfl c_4 ?_
         refine rn 7 rfl ?_
         refine ct rfl rfl ?_
         refine rn 1 rfl ?_
         cases hF
         exact rD (rlt rl0) rfl
       · refine wfx 29 rfl c_4 ?_
         refine rn 4 rfl ?_
         refine bi hF (fun c_5 hF => ?_) (fun c_5 hF => ?_)
         · refine wfx 33 rfl c_5 ?_
           refine rn 3 rfl ?_
           refine ct rfl rfl ?_
           refine rn 1 rfl ?_
           cases hF
           exact rD (rlt rl0) rfl
         · refine wfx 33 rfl c_5 ?_
           refine rn 3 rfl ?_
           refine ci hF rfl (fun c_6 hF => ?_) (fun c_6 hF => ?_)
           · refine rn 1 rfl ?_
             cases hF
             exact rD (rlt rl0) rfl
           · refine rn 0 rfl ?_
             refine W.o (e_faddrD rfl) ?_
             refine W.o (l1D rfl (by first | rfl | (rw [slV_cells]; rfl))) ?_
             refine W.o (e_len (rd_V rfl)) ?_
             refine rn 1 rfl ?_
             exact w54 (.p1 p ((ls p.Code).length : Int) p.Code ((ls p.Code).length : Int) 0) _ hF _ _ ⟨rfl, rfl, rfl, rfl, rfl, trivial⟩ hs
def C37_1 : ACode := .s (.ops [q 1 (.boxD 3 0), q 2 (.mv (ki 0))]) (.s (.s (.ops [q 3 (.loadN 3 1), qc 4 54 [3], q 5 (.un .not 4)]) (.cond 5 (.s (.ops [q 2 (.mv (ki 100))]) .ret) .skip)) (.s (.s (.ops [q 6 (.loadN 3 1), qc 7 55 [6]]) (.cond 7 (.s (.ops [q 2 (.mv (ki 101))]) .ret) .skip)) (.s (.ops [q 2 (.mv (ki 0))]) .ret)))
def R37 : List RA := [(.tmp 2)]
theorem k37 : compF Tryd.prog (muL [1]) 37 = some ⟨8, C37_1, R37⟩ := by kernel_rfl
noncomputable abbrev X37 (r : Int) : Cx := cD Tryd.prog gE 8 R37 (AV.int .i64 r) [1]
noncomputable def F37 (p : T45) : Option Int := (F54 p >>= fun r_1 => (if (!r_1) = true then (some 100) else (F55 p >>= fun r_4 => (if r_4 = true then (some 101) else (some 0)))))
theorem d37 (p : T45) (r : Int) (hF : F37 p = some r) : DFun Tryd.prog gE 37 [v45 p] (AV.int .i64 r) := by
 unfold F37 at hF
 refine bD k37 rfl ?_
 have hs : SH [] [] := SH.nil
 generalize ([] : Store) = st at hs ⊢
 refine rn 0 rfl ?_
 refine W.o (e_boxD (cs := c45 p) rfl rfl (c45_one _)) ?_
 refine rn 1 rfl ?_
 refine W.o (lND (s := c45 p) rfl rfl rfl) ?_
 obtain ⟨r_1, g_2, hF⟩ := bind_some hF
 refine df (d54 p _ g_2) rfl ?_
 refine rn 1 rfl ?_
 refine ci hF rfl (fun c_3 hF => ?_) (fun c_3 hF => ?_)
 · refine rn 1 rfl ?_
   cases hF
   exact rD (rlt rl0) rfl
 · refine rn 0 rfl ?_
   refine W.o (lND (s := c45 p) rfl rfl rfl) ?_
   obtain ⟨r_4, g_5, hF⟩ := bind_some hF
   refine df (d55 p _ g_5) rfl ?_
   refine rn 0 rfl ?_
   refine ci hF rfl (fun c_6 hF => ?_) (fun c_6 hF => ?_)
   · refine rn 1 rfl ?_
     cases hF
     exact rD (rlt rl0) rfl
   · refine rn 1 rfl ?_
     cases hF
     exact rD (rlt rl0) rfl
def C20_34 : ACode := .s (.ops [q 41 (.iaddrL 1 37 39), q 42 (.load1 41), q 10 (.mv 42)]) (.s (.ops [q 43 (.mv 10), q 44 (.faddr 1 5), q 45 (.load1 44), q 46 (.binI .eql 43 45)]) (.cond 46 (.s (.ops [q 6 (.mv (.c (.bool true))), q 7 (.mv (ki 0))]) .ret) .skip))
def C20_26 : ACode := .s (.ops [q 40 (.binI .lss 39 38)]) (.s (.cond 40 .skip (.exit 0)) (.s (.block 1 C20_34) (.ops [q 47 (.binI .add 39 (ki 1)), q 39 (.mv 47)])))
def C20_44 : ACode := .s (.ops [q 6 (.mv (.c (.bool false))), q 7 (.mv (ki 0))]) .ret
def C20_1 : ACode := .s (.ops [q 3 (.boxD 3 0), q 5 (.boxD 2 2), q 6 (.mv (.c (.bool false))), q 7 (.mv (ki 0))]) (.s (.s (.ops [q 11 (.loadN 3 3), qc 12 37 [11], q 8 (.mv 12)]) (.s (.ops [q 13 (.mv 8), q 14 (.binI .neq 13 (ki 0))]) (.cond 14 (.s (.ops [q 15 (.mv 8), q 6 (.mv (.c (.bool false))), q 7 (.mv 15)]) .ret) .skip))) (.s (.s (.ops [q 16 (.faddr 0 5), q 17 (.load1 16), q 18 (.binI .lss 17 (ki 0)), q 19 (.mv 18), (q 20 (.faddr 1 5)).n 19, (q 21 (.load1 20)).n 19, (q 22 (.faddr 0 5)).n 19, (q 23 (.load1 22)).n 19, (q 24 (.binI .lss 21 23)).n 19, q 25 (.pick 19 (.c (.bool true)) 24), q 26 (.mv 25), (q 27 (.faddr 1 5)).n 26, (q 28 (.load1 27)).n 26, (q 29 (.mv 1)).n 26, (q 30 (.lenS 29)).n 26, (q 31 (.binI .gtr 28 30)).n 26, q 32 (.pick 26 (.c (.bool true)) 31)]) (.cond 32 (.s (.ops [q 6 (.mv (.c (.bool false))), q 7 (.mv (ki 2))]) .ret) .skip)) (.s (.s (.ops [q 33 (.loadN 3 3), q 34 (.mv 1), q 35 (.faddr 0 5), q 36 (.load1 35), qc 37 38 [33, 34, 36], q 38 (.len 37), q 39 (.mv (ki 0))]) (.block 0 (.loop C20_26))) C20_44)))
def R20 : List RA := [(.tmp 6), (.tmp 7)]
theorem k20 : compF Tryd.prog (muL [3, 5]) 20 = some ⟨48, C20_1, R20⟩ := by kernel_rfl
noncomputable abbrev X20 (r : Bool × Int) : Cx := cD Tryd.prog gE 48 R20 (AV.tup [AV.bool r.1, AV.int .i64 r.2]) [3, 5]
inductive St20 where
 | p1 (at_ : T50) (t37_ : Sl Int) (t38_ : Int) (t39_ : Int)
noncomputable def G20 : St20 → Option (Bool × Int) | .p1 at_ t37_ t38_ t39_ => (if (decide (t39_ < t38_)) = true then (ix (ls t37_) t39_ >>= fun v_10 => (if (v_10 == at_.To) = true then (some (true, 0)) else (G20 (.p1 at_ t37_ t38_ (IntKind.wrap .i64 (t39_ + 1)))))) else (some (false, 0))) partial_fixpoint
def M20 (x : St20) (r : Bool × Int) : Prop := match x with | .p1 at_ t37_ t38_ t39_ => ∀ (tm : Fr) (st : Store), Frm tm [(5, .dptr (c50 at_)), (37, slV 1 (AV.int .i64) t37_), (38, AV.int .i64 t38_), (39, AV.int .i64 t39_)] → SH st [] → W (X20 r) [.lp C20_26, .blk 0, .code C20_44] tm st
theorem w20 : ∀ (x : St20) (r : Bool × Int), G20 x = some r → M20 x r := by
 refine G20.partial_correctness (M20) ?_
 intro g ih x r hF
 cases x with
 | p1 at_ t37_ t38_ t39_ =>
  dsimp only at hF
  intro tm st hf hs
  refine en hf ?_
  refine lp ?_
  refine rn 1 rfl ?_
  refine ci hF rfl (fun c_9 hF => ?_) (fun c_9 hF => ?_)
  · obtain ⟨v_10, g_11, hF⟩ := bind_some hF
    refine rn 0 rfl ?_
    refine W.o (e_iaddrL (rd_V rfl) rfl g_11) ?_
    refine W.o (l1D rfl rfl) ?_
    refine rn 2 rfl ?_
    refine W.o (e_faddrD rfl) ?_
    refine W.o (l1D rfl rfl) ?_
    refine rn 1 rfl ?_
    refine ci hF rfl (fun c_12 hF => ?_) (fun c_12 hF => ?_)
    · refine rn 2 rfl ?_
      cases hF
      exact rD (rlt (rlt rl0)) rfl
    · refine rn 2 rfl ?_
      exact ih (.p1 at_ t37_ t38_ (IntKind.wrap .i64 (t39_ + 1))) _ hF _ _ ⟨rfl, rfl, rfl, rfl, trivial⟩ hs
  · refine rn 2 rfl ?_
    cases hF
    exact rD (rlt (rlt rl0)) rfl
noncomputable def F20 (p : T45) (s : Str) (at_ : T50) : Option (Bool × Int) := (F37 p >>= fun r_1 => (if (r_1 != 0) = true then (some (false, r_1)) else (if (decide (at_.From < 0)) = true then (some (false, 2)) else (if (decide (at_.To < at_.From)) = true then (some (false, 2)) else (if (decide (at_.To > ((s).length : Int))) = true then (some (false, 2)) else (F38 p s at_.From >>= fun r_7 => (G20 (.p1 at_ r_7 ((ls r_7).length : Int) 0))))))))
theorem d20 (p : T45) (s : Str) (at_ : T50) (r : Bool × Int) (hF : F20 p s at_ = some r) : DFun Tryd.prog gE 20 [v45 p, AV.str s, v50 at_] (AV.tup [AV.bool r.1, AV.int .i64 r.2]) := by
 unfold F20 at hF
 refine bD k20 rfl ?_
 have hs : SH [] [] := SH.nil
 generalize ([] : Store) = st at hs ⊢
 refine rn 0 rfl ?_
 refine W.o (e_boxD (cs := c45 p) rfl rfl (c45_one _)) ?_
 refine W.o (e_boxD (cs := c50 at_) rfl rfl rfl) ?_
 refine rn 2 rfl ?_
 refine W.o (lND (s := c45 p) rfl rfl rfl) ?_
 obtain ⟨r_1, g_2, hF⟩ := bind_some hF
 refine df (d37 p _ g_2) rfl ?_
 refine rn 3 rfl ?_
 refine ci hF rfl (fun c_3 hF => ?_) (fun c_3 hF => ?_)
 · refine rn 3 rfl ?_
   cases hF
   exact rD (rlt (rlt rl0)) rfl
 · refine rn 0 rfl ?_
   refine W.o (e_faddrD rfl) ?_
   refine W.o (l1D rfl rfl) ?_
   refine rn 2 rfl ?_
   refine bi hF (fun c_4 hF => ?_) (fun c_4 hF => ?_)
   · refine wfx 19 rfl c_4 ?_
     refine rn 13 rfl ?_
     refine ct rfl rfl ?_
     refine rn 2 rfl ?_
     cases hF
     exact rD (rlt (rlt rl0)) rfl
   · refine wfx 19 rfl c_4 ?_
     refine W.on rfl rfl ?_
     refine W.o (e_faddrD rfl) ?_
     refine W.on rfl rfl ?_
     refine W.o (l1D rfl rfl) ?_
     refine W.on rfl rfl ?_
     refine W.o (e_faddrD rfl) ?_
     refine W.on rfl rfl ?_
     refine W.o (l1D rfl rfl) ?_
     refine rn 3 rfl ?_
     refine bi hF (fun c_5 hF => ?_) (fun c_5 hF => ?_)
     · refine wfx 26 rfl c_5 ?_
       refine rn 6 rfl ?_
       refine ct rfl rfl ?_
       refine rn 2 rfl ?_
       cases hF
       exact rD (rlt (rlt rl0)) rfl
     · refine wfx 26 rfl c_5 ?_
       refine W.on rfl rfl ?_
       refine W.o (e_faddrD rfl) ?_
       refine W.on rfl rfl ?_
       refine W.o (l1D rfl rfl) ?_
       refine rn 4 rfl ?_
       refine ci hF rfl (fun c_6 hF => ?_) (fun c_6 hF => ?_)
       · refine rn 2 rfl ?_
         cases hF
         exact rD (rlt (rlt rl0)) rfl
       · refine rn 0 rfl ?_
         refine W.o (lND (s := c45 p) rfl rfl rfl) ?_
         refine rn 1 rfl ?_
         refine W.o (e_faddrD rfl) ?_
         refine W.o (l1D rfl rfl) ?_
         obtain ⟨r_7, g_8, hF⟩ := bind_some hF
         refine df (d38 p s at_.From _ g_8) rfl ?_
         refine W.o (e_len (rd_V rfl)) ?_
         refine rn 1 rfl ?_
         exact w20 (.p1 at_ r_7 ((ls r_7).length : Int) 0) _ hF _ _ ⟨rfl, rfl, rfl, rfl, trivial⟩ hs
def C48_8 : ACode := .ops [q 3 (.mv 5)]
def C48_9 : ACode := .block 1 (.s (.ops [q 6 (.mv 3), q 7 (.nilck 6), q 8 (.faddr 0 7), q 9 (.load1 8), q 10 (.binI .eql 9 (ku 7))]) (.cond 10 (.s (.ops [q0 (.store 1 2 (.c (.bool true)))]) .ret) .skip))
def C48_7 : ACode := .range 4 [5] C48_8 C48_9
def C48_17 : ACode := .s (.ops [q0 (.store 1 2 (.c (.bool false)))]) .ret
def C48_1 : ACode := .s (.ops [q 1 (.boxD 9 0), q 2 (.alloc [(.bool false)])]) (.s (.s (.ops [qc 4 53 [1]]) (.block 0 C48_7)) C48_17)
def R48 : List RA := [(.cell1 2)]
theorem k48 : compF Tryd.prog (muL [1]) 48 = some ⟨11, C48_1, R48⟩ := by kernel_rfl
noncomputable abbrev X48 (r : Bool) : Cx := cD Tryd.prog gE 11 R48 (AV.bool r) [1]
noncomputable def B48_1 (t4_ : T27) (x : T27) (zz : Bool × Nat) : Option (Bool × (Bool × Nat)) := if zz.2 = 0 then (if (x.Kind == 7) = true then (some (false, (true, 1))) else (some (true, (zz.1, 0))))
else none
theorem b48_1 (t4_ : T27) (x : T27) (zz : Bool × Nat) (r : Bool × (Bool × Nat)) (hF : B48_1 t4_ x zz = some r) (K : AV → Store → Prop) (Ls : List Asn) (iL : Nat) (ca cb : Code) (tm0 : Fr) (io0 : Nat) (q1 : compC Tryd.prog 11 (rnd (muL [1])) ca = some C48_8) (q2 : compC Tryd.prog 11 (rnd (muL [1])) cb = some C48_9) (hf : Frm tm0 [(2, .ptr io0 0), (4, .fn 81 [.dptr [.dptr (c27 t4_)]])]) (hK : ∀ st, SH st (bun [pt iL (.loop 11 [5] ca cb tm0 (lsW r.2.2) (ljW [.ret] r.2.2)), pt io0 (.cells (cB r.2.1))] :: Ls) → K (.bool r.1) st) (st : Store) (hs : SH st (bun [pt iL (.loop 11 [5] ca cb tm0 (lsW zz.2) (ljW [.ret] zz.2)), pt io0 (.cells (cB zz.1))] :: Ls)) : XYield Tryd.prog gE iL [.dptr (c27 x)] st K := by
 unfold B48_1 at hF
 obtain ⟨c_, hF⟩ := grd_some hF
 replace hs : SH st ([pt iL (.loop 11 [5] ca cb tm0 (lsW zz.2) (ljW [.ret] zz.2)), pt io0 (.cells (cB zz.1))] ++ Ls) := SH.unbun hs
 rw [c_] at hs
 replace hs : SH st (pt iL (.loop 11 [5] ca cb tm0 .ready none) :: pt io0 (.cells (cB zz.1)) :: Ls) := hs
 replace hK : (∀ st, SH st (pt iL (.loop 11 [5] ca cb tm0 (lsW r.2.2) (ljW [.ret] r.2.2)) :: pt io0 (.cells (cB r.2.1)) :: Ls) → K (.bool r.1) st) := fun st hs => hK st (SH.bun hs)
 refine bR' (mu := [1]) q1 q2 hs rfl rfl (fun _ _ => trivial) ?_
 rw [putL1 hf]
 refine rn 1 rfl ?_
 refine rdW hs fun st hs => ?_
 refine rn 1 rfl ?_
 refine W.o (e_nilckD rfl) ?_
 refine W.o (e_faddrD rfl) ?_
 refine W.o (e_load1D rfl (DP.fld (DP.refl _) (lrg27_Kind x))) ?_
 refine rn 1 rfl ?_
 refine ci hF rfl (fun c_1 hF => ?_) (fun c_1 hF => ?_)
 · refine rn 0 rfl ?_
   refine sr hs 1 rfl rfl rfl (cs' := cB true) rfl rfl fun st hs => ?_
   refine rj 0 1 rfl ?_
   cases hF
   exact rdR hs (fun st hs => hK st hs)
 · refine rn 0 rfl ?_
   cases hF
   exact rdN hs (fun st hs => hK st hs)
inductive St48 where
 | p1 (t4_ : T27) (t2_ : Bool)
noncomputable def G48 : St48 → Option Bool | .p1 t4_ t2_ => (F81 (B48_1 t4_) t4_ (t2_, 0) >>= fun r_4 => (if r_4.2 = 0 then (some false) else (if r_4.2 = 1 then (some r_4.1) else none)))
def M48 (x : St48) (r : Bool) : Prop := match x with | .p1 t4_ t2_ => ∀ (tm : Fr) (st : Store) (io0 : Nat), Frm tm [(2, .ptr io0 0), (4, .fn 81 [.dptr [.dptr (c27 t4_)]])] → SH st [pt io0 (.cells (cB t2_))] → W (X48 r) [.code C48_7, .blk 0, .code C48_17] tm st
theorem w48 : ∀ (x : St48) (r : Bool), G48 x = some r → M48 x r := by
 intro x r hF
 cases x with
 | p1 t4_ t2_ =>
  dsimp only [G48] at hF
  intro tm st io0 hf hs
  obtain ⟨r_4, g_5, hF⟩ := bind_some hF
  refine rg (N := 11) (fr := []) rfl hs hf.2.1 (by kernel_rfl) fun ca cb st iL q1 q2 hs => ?_
  refine d81 (σ := Bool × Nat) (H := fun zz => bun [pt iL (.loop 11 [5] ca cb tm (lsW zz.2) (ljW [.ret] zz.2)), pt io0 (.cells (cB zz.1))]) (Y := B48_1 t4_) iL (fun x zz r hB K L st hs hK => b48_1 t4_ x zz r hB K L iL ca cb tm io0 q1 q2 hf hK st hs) t4_ (t2_, 0) _ g_5 _ _ (fun st hs => ?_) _ (SH.bun hs)
  replace hs : SH st ([pt iL (.loop 11 [5] ca cb tm (lsW r_4.2) (ljW [.ret] r_4.2)), pt io0 (.cells (cB r_4.1))] ++ _) := SH.unbun hs
  refine ni hF (fun c_ hF => ?_) (fun c_ hF => ?_)
  · rw [c_] at hs
    refine rgN hs (by decide) fun st hs => ?_
    refine en hf ?_
    refine rn 0 rfl ?_
    refine sr hs 0 rfl rfl rfl (cs' := cB false) rfl rfl fun st hs => ?_
    refine rn 0 rfl ?_
    cases hF
    exact rD (rl_cell1 rfl (hs.g 0 rfl) (LR.whole _ _) rl0) rfl
  · refine ni hF (fun c_ hF => ?_) (fun c_ hF => ?_)
    · rw [c_] at hs
      refine rgR (fun _ _ => rfl) hs (by decide) fun st hs => ?_
      refine en hf ?_
      cases hF
      exact eD (rl_cell1 rfl (hs.g 0 rfl) (LR.whole _ _) rl0) rfl
    · cases hF
noncomputable def F48 (n : T27) : Option Bool := (F53 n >>= fun r_2 => (G48 (.p1 r_2 false)))
theorem d48 (n : T27) (r : Bool) (hF : F48 n = some r) : DFun Tryd.prog gE 48 [v27 n] (AV.bool r) := by
 unfold F48 at hF
 refine bD k48 rfl ?_
 have hs : SH [] [] := SH.nil
 generalize ([] : Store) = st at hs ⊢
 refine rn 0 rfl ?_
 refine W.o (e_boxD (cs := c27 n) rfl (by rw [c27_len]; rfl) (c27_one _)) ?_
 refine al hs (cs := cB false) rfl fun st b_1 hs => ?_
 obtain ⟨r_2, g_3, hF⟩ := bind_some hF
 refine rn 0 rfl ?_
 refine df (d53 n _ g_3) rfl ?_
 refine rj 0 2 rfl ?_
 exact w48 (.p1 r_2 false) _ hF _ _ b_1 ⟨rfl, rfl, trivial⟩ hs
def C49_26 : ACode := .s (.ops [q 20 (.loadN 9 4), qc 21 49 [20]]) (.cond 21 (.s (.ops [q 2 (.mv (.c (.bool true)))]) .ret) .skip)
def C49_16 : ACode := .s (.ops [q 17 (.binI .lss 16 15)]) (.s (.cond 17 .skip (.exit 0)) (.s (.block 1 (.s (.ops [q 18 (.iaddrL 9 14 16), q 19 (.loadN 9 18), q 4 (.alloc [(.int .u8 0), (.int .u64 0), (.int .u64 0), (.int .u64 0), (.int .u64 0), (.int .i64 0), (.int .i64 0), (.int .i64 0), .nils]), q0 (.store 9 4 19)]) C49_26)) (.ops [q 22 (.binI .add 16 (ki 1)), q 16 (.mv 22)])))
def C49_34 : ACode := .s (.ops [q 2 (.mv (.c (.bool false)))]) .ret
def C49_1 : ACode := .s (.ops [q 1 (.boxD 9 0), q 2 (.mv (.c (.bool false)))]) (.s (.s (.ops [q 5 (.faddr 0 1), q 6 (.load1 5), q 7 (.binI .eql 6 (ku 8)), q 8 (.mv 7), (q 9 (.faddr 0 1)).n 8, (q 10 (.load1 9)).n 8, (q 11 (.binI .eql 10 (ku 9))).n 8, q 12 (.pick 8 (.c (.bool true)) 11)]) (.cond 12 (.s (.ops [q 2 (.mv (.c (.bool true)))]) .ret) .skip)) (.s (.s (.ops [q 13 (.faddr 8 1), q 14 (.load1 13), q 15 (.len 14), q 16 (.mv (ki 0))]) (.block 0 (.loop C49_16))) C49_34))
def R49 : List RA := [(.tmp 2)]
theorem k49 : compF Tryd.prog (muL [1]) 49 = some ⟨23, C49_1, R49⟩ := by kernel_rfl
noncomputable abbrev X49 (r : Bool) : Cx := cD Tryd.prog gE 23 R49 (AV.bool r) [1]
inductive St49 where
 | e (n : T27)
 | p1 (t14_ : Sl T27) (t15_ : Int) (t16_ : Int)
noncomputable def G49 : St49 → Option Bool | .e n => (if (n.Kind == 8) = true then (some true) else (if (n.Kind == 9) = true then (some true) else (G49 (.p1 n.Kids ((ls n.Kids).length : Int) 0)))) | .p1 t14_ t15_ t16_ => (if (decide (t16_ < t15_)) = true then (ix (ls t14_) t16_ >>= fun v_4 => (G49 (.e v_4) >>= fun r_7 => (if r_7 = true then (some true) else (G49 (.p1 t14_ t15_ (IntKind.wrap .i64 (t16_ + 1))))))) else (some false)) partial_fixpoint
def M49 (x : St49) (r : Bool) : Prop := match x with | .e n => DFun Tryd.prog gE 49 [v27 n] (AV.bool r) | .p1 t14_ t15_ t16_ => ∀ (tm : Fr) (st : Store), Frm tm [(14, slV 9 v27 t14_), (15, AV.int .i64 t15_), (16, AV.int .i64 t16_)] → SH st [] → W (X49 r) [.lp C49_16, .blk 0, .code C49_34] tm st
theorem w49 : ∀ (x : St49) (r : Bool), G49 x = some r → M49 x r := by
 refine G49.partial_correctness (M49) ?_
 intro g ih x r hF
 cases x with
 | e n =>
  dsimp only at hF
  refine bD k49 rfl ?_
  have hs : SH [] [] := SH.nil
  generalize ([] : Store) = st at hs ⊢
  refine rn 0 rfl ?_
  refine W.o (e_boxD (cs := c27 n) rfl (by rw [c27_len]; rfl) (c27_one _)) ?_
  refine rn 1 rfl ?_
  refine W.o (e_faddrD rfl) ?_
  refine W.o (e_load1D rfl (DP.fld (DP.refl _) (lrg27_Kind n))) ?_
  refine rn 2 rfl ?_
  refine bi hF (fun c_1 hF => ?_) (fun c_1 hF => ?_)
  · refine wfx 8 rfl c_1 ?_
    refine rn 4 rfl ?_
    refine ct rfl rfl ?_
    refine rn 1 rfl ?_
    cases hF
    exact rD (rlt rl0) rfl
  · refine wfx 8 rfl c_1 ?_
    refine W.on rfl rfl ?_
    refine W.o (e_faddrD rfl) ?_
    refine W.on rfl rfl ?_
    refine W.o (e_load1D rfl (DP.fld (DP.refl _) (lrg27_Kind n))) ?_
    refine rn 2 rfl ?_
    refine ci hF rfl (fun c_2 hF => ?_) (fun c_2 hF => ?_)
    · refine rn 1 rfl ?_
      cases hF
      exact rD (rlt rl0) rfl
    · refine rn 0 rfl ?_
      refine W.o (e_faddrD rfl) ?_
      refine W.o (e_load1D rfl (DP.fld (DP.refl _) (lrg27_Kids n))) ?_
      refine W.o (e_len (rd_V rfl)) ?_
      refine rn 1 rfl ?_
      exact ih (.p1 n.Kids ((ls n.Kids).length : Int) 0) _ hF _ _ ⟨rfl, rfl, rfl, trivial⟩ hs
 | p1 t14_ t15_ t16_ =>
  dsimp only at hF
  intro tm st hf hs
  refine en hf ?_
  refine lp ?_
  refine rn 1 rfl ?_
  refine ci hF rfl (fun c_3 hF => ?_) (fun c_3 hF => ?_)
  · obtain ⟨v_4, g_5, hF⟩ := bind_some hF
    refine rn 0 rfl ?_
    refine W.o (e_iaddrL (rd_V rfl) rfl g_5) ?_
    refine W.o (e_loadND rfl (DP.refl _) (c27_len _)) ?_
    refine al hs (cs := c27 ({ Kind := 0, Set := (Arr.rep 4 (0 : Int)), Min := 0, Max := 0, Group := 0, Kids := none } : T27)) rfl fun st b_6 hs => ?_
    refine sl hs 0 rfl rfl (LR.whole _ _) (c27_len _) rfl (c27_len _) (c27_one _) rfl fun st hs => ?_
    refine rn 0 rfl ?_
    refine W.o (e_loadN rfl (hs.g 0 rfl) (LR.whole _ _) (c27_len _)) ?_
    obtain ⟨r_7, g_8, hF⟩ := bind_some hF
    refine df (ih (.e v_4) _ g_8) rfl ?_
    refine rn 0 rfl ?_
    refine ci hF rfl (fun c_9 hF => ?_) (fun c_9 hF => ?_)
    · refine rn 1 rfl ?_
      cases hF
      exact rD (rlt rl0) rfl
    · refine rn 2 rfl ?_
      exact ih (.p1 t14_ t15_ (IntKind.wrap .i64 (t16_ + 1))) _ hF _ _ ⟨rfl, rfl, rfl, trivial⟩ (hs.p 1 [] rfl)
  · refine rn 1 rfl ?_
    cases hF
    exact rD (rlt rl0) rfl
noncomputable def F49 (n : T27) : Option Bool := G49 (.e n)
theorem d49 (n : T27) (r : Bool) (hF : F49 n = some r) : DFun Tryd.prog gE 49 [v27 n] (AV.bool r) := by
 exact w49 (.e n) r hF
def C32_1 : ACode := .s (.ops [q 1 (.boxD 9 0), q 2 (.alloc [(.int .i64 0), (.int .i64 0), .nils]), q 3 (.mv (ki 0))]) (.s (.ops [q 7 (.loadN 9 1), qc 8 19 [7], q 6 (.mv 8), q 9 (.extract 6 0), q 10 (.extract 6 1), q 4 (.alloc [(.int .i64 0), (.int .i64 0), .nils]), q0 (.store 3 4 9), q 5 (.mv 10)]) (.s (.block 0 (.s (.ops [q 12 (.mv 5), q 13 (.binI .neq 12 (ki 0)), q 11 (.mv 13)]) (.cond 11 (.s (.ops [q 14 (.build [(.int .i64 0), (.int .i64 0), .nils] []), q 15 (.mv 5), q0 (.store 3 2 14), q 3 (.mv 15)]) .ret) (.s (.ops [q 17 (.loadN 9 1), qc 18 48 [17], q 16 (.mv 18)]) (.cond 16 (.s (.ops [q 19 (.build [(.int .i64 0), (.int .i64 0), .nils] []), q0 (.store 3 2 19), q 3 (.mv (ki 101))]) .ret) (.s (.ops [q 21 (.loadN 9 1), qc 22 49 [21], q 20 (.mv 22)]) (.cond 20 (.s (.ops [q 23 (.build [(.int .i64 0), (.int .i64 0), .nils] []), q0 (.store 3 2 23), q 3 (.mv (ki 120))]) .ret) .skip))))))) (.s (.ops [q 24 (.loadN 3 4), q0 (.store 3 2 24), q 3 (.mv (ki 0))]) .ret)))
def R32 : List RA := [(.cellN 2 3), (.tmp 3)]
theorem k32 : compF Tryd.prog (muL [1]) 32 = some ⟨25, C32_1, R32⟩ := by kernel_rfl
noncomputable abbrev X32 (r : T45 × Int) : Cx := cD Tryd.prog gE 25 R32 (AV.tup [v45 r.1, AV.int .i64 r.2]) [1]
noncomputable def F32 (n : T27) : Option (T45 × Int) := (F19 n >>= fun r_2 => (if (r_2.2 != 0) = true then (some (({ Groups := 0, Slots := 0, Code := none } : T45), r_2.2)) else (F48 n >>= fun r_6 => (if r_6 = true then (some (({ Groups := 0, Slots := 0, Code := none } : T45), 101)) else (F49 n >>= fun r_9 => (if r_9 = true then (some (({ Groups := 0, Slots := 0, Code := none } : T45), 120)) else (some (r_2.1, 0))))))))
theorem d32 (n : T27) (r : T45 × Int) (hF : F32 n = some r) : DFun Tryd.prog gE 32 [v27 n] (AV.tup [v45 r.1, AV.int .i64 r.2]) := by
 unfold F32 at hF
 refine bD k32 rfl ?_
 have hs : SH [] [] := SH.nil
 generalize ([] : Store) = st at hs ⊢
 refine rn 0 rfl ?_
 refine W.o (e_boxD (cs := c27 n) rfl (by rw [c27_len]; rfl) (c27_one _)) ?_
 refine al hs (cs := c45 ({ Groups := 0, Slots := 0, Code := none } : T45)) rfl fun st b_1 hs => ?_
 refine rn 1 rfl ?_
 refine W.o (e_loadND rfl (DP.refl _) (c27_len _)) ?_
 obtain ⟨r_2, g_3, hF⟩ := bind_some hF
 refine df (d19 n _ g_3) rfl ?_
 refine rn 3 rfl ?_
 refine al hs (cs := c45 ({ Groups := 0, Slots := 0, Code := none } : T45)) rfl fun st b_4 hs => ?_
 refine sl hs 0 rfl rfl (LR.whole _ _) (c45_len _) rfl (c45_len _) (c45_one _) rfl fun st hs => ?_
 refine rn 4 rfl ?_
 refine ci hF rfl (fun c_5 hF => ?_) (fun c_5 hF => ?_)
 · refine rn 0 rfl ?_
   refine W.o (bR (cs := c45 ({ Groups := 0, Slots := 0, Code := none } : T45)) rfl rfl) ?_
   refine rn 1 rfl ?_
   refine sl hs 1 rfl rfl (LR.whole _ _) (c45_len _) rfl (c45_len _) (c45_one _) rfl fun st hs => ?_
   refine rn 1 rfl ?_
   cases hF
   exact rD (rl_cellN rfl (hs.g 1 rfl) (LR.whole _ _) (c45_len _) (rlt rl0)) rfl
 · refine rn 0 rfl ?_
   refine W.o (e_loadND rfl (DP.refl _) (c27_len _)) ?_
   obtain ⟨r_6, g_7, hF⟩ := bind_some hF
   refine df (d48 n _ g_7) rfl ?_
   refine rn 1 rfl ?_
   refine ci hF rfl (fun c_8 hF => ?_) (fun c_8 hF => ?_)
   · refine rn 0 rfl ?_
     refine W.o (bR (cs := c45 ({ Groups := 0, Slots := 0, Code := none } : T45)) rfl rfl) ?_
     refine sl hs 1 rfl rfl (LR.whole _ _) (c45_len _) rfl (c45_len _) (c45_one _) rfl fun st hs => ?_
     refine rn 1 rfl ?_
     cases hF
     exact rD (rl_cellN rfl (hs.g 1 rfl) (LR.whole _ _) (c45_len _) (rlt rl0)) rfl
   · refine rn 0 rfl ?_
     refine W.o (e_loadND rfl (DP.refl _) (c27_len _)) ?_
     obtain ⟨r_9, g_10, hF⟩ := bind_some hF
     refine df (d49 n _ g_10) rfl ?_
     refine rn 1 rfl ?_
     refine ci hF rfl (fun c_11 hF => ?_) (fun c_11 hF => ?_)
     · refine rn 0 rfl ?_
       refine W.o (bR (cs := c45 ({ Groups := 0, Slots := 0, Code := none } : T45)) rfl rfl) ?_
       refine sl hs 1 rfl rfl (LR.whole _ _) (c45_len _) rfl (c45_len _) (c45_one _) rfl fun st hs => ?_
       refine rn 1 rfl ?_
       cases hF
       exact rD (rl_cellN rfl (hs.g 1 rfl) (LR.whole _ _) (c45_len _) (rlt rl0)) rfl
     · refine rn 0 rfl ?_
       refine W.o (lN (s := c45 r_2.1) rfl (hs.g 0 rfl) rfl rfl) ?_
       refine sl hs 1 rfl rfl (LR.whole _ _) (c45_len _) rfl (c45_len _) (c45_one _) rfl fun st hs => ?_
       refine rn 1 rfl ?_
       cases hF
       exact rD (rl_cellN rfl (hs.g 1 rfl) (LR.whole _ _) (c45_len _) (rlt rl0)) rfl
end Go.Proofs.YtcidnoghoifmmaaDoor
end
