/-
  Texts of this proof, put together: D3, D4, D5, PlA, NfA, NfC, NfD, NfE, NfS1, NfS2, NfS3, NfS4, NfS5, NfS6, NfS7, NfP1.
-/
import Derived.Test.YtjbafmnocopofaaPk32
import Derived.Test.YtjbafmnocopofaaPk31
section
/-
  Functions of the program's as plain functions.
-/

set_option linter.unusedVariables false
set_option maxRecDepth 4000
set_option maxHeartbeats 4000000
namespace Go.Proofs.Ytjbafmnocopofaa
open Go AW
attribute [local irreducible] W WD SH XS XLoop DFun XCall XYield
/-! ### 55: slices.ContainsFunc[[]paddock/api.Inst,paddock/api.Inst] -/
def C55_1 : ACode := .s (.ops [q 4 (.mv (.c (.bool false)))]) (.s (.ops [q 5 (.mv 0), q 6 (.mv 1), qc 7 60 [5, 6], q 8 (.binI .geq 7 (ki 0)), q 4 (.mv 8)]) .ret)
def R55 : List RA := [(.tmp 4)]
theorem k55 : compF Try.prog (muL []) 55 = some ⟨9, C55_1, R55⟩ := by kernel_rfl
noncomputable abbrev X55 (r : Bool) : Cx := cD Try.prog noG 9 R55 (AV.bool r)
noncomputable def F55 (s : Sl T52) : Option Bool :=
 (F60 s >>= fun r_1 =>
  (some (decide (r_1 ≥ 0))))
theorem d55 (s : Sl T52) (r : Bool) (hF : F55 s = some r) : DFun Try.prog noG 55 [slV 9 v52 s, .fn 56 []] (AV.bool r) := by
 unfold F55 at hF
 refine bD k55 rfl ?_
 have hs : SH [] [] := SH.nil
 generalize ([] : Store) = st at hs ⊢
 obtain ⟨r_1, g_2, hF⟩ := bind_some hF
 refine rn 3 rfl ?_
 refine df (d60 s _ g_2) rfl ?_
 refine rn 2 rfl ?_
 cases hF
 exact rD (rlt rl0) rfl
/-! ### 42: paddock/nfa.backs -/
def C42_1 : ACode := .s (.ops [q 1 (.boxD 3 0), q 2 (.mv (.c (.bool false)))]) (.s (.ops [q 3 (.faddr 2 1), q 4 (.load1 3), qc 5 55 [4, (.c (.fn 56 []))], q 2 (.mv 5)]) .ret)
def R42 : List RA := [(.tmp 2)]
theorem k42 : compF Try.prog (muL [1]) 42 = some ⟨6, C42_1, R42⟩ := by kernel_rfl
noncomputable abbrev X42 (r : Bool) : Cx := cD Try.prog noG 6 R42 (AV.bool r) [1]
noncomputable def F42 (p : T34) : Option Bool :=
 (F55 p.Code >>= fun r_1 =>
  (some r_1))
theorem d42 (p : T34) (r : Bool) (hF : F42 p = some r) : DFun Try.prog noG 42 [v34 p] (AV.bool r) := by
 unfold F42 at hF
 refine bD k42 rfl ?_
 have hs : SH [] [] := SH.nil
 generalize ([] : Store) = st at hs ⊢
 refine rn 0 rfl ?_
 refine W.o (e_boxD (cs := c34 p) rfl rfl (c34_one _)) ?_
 refine rn 1 rfl ?_
 refine W.o (e_faddrD rfl) ?_
 refine W.o (l1D rfl rfl) ?_
 obtain ⟨r_1, g_2, hF⟩ := bind_some hF
 refine df (d55 p.Code _ g_2) rfl ?_
 refine rn 1 rfl ?_
 cases hF
 exact rD (rlt rl0) rfl
/-! ### 11: paddock/nfa.Right -/
def O11_7o1 : List AOp := (q 35 (.binI .gtr 34 (ki 16384))).n 33 :: q 36 (.pick 33 (.c (.bool true)) 35) :: []
def O11_7o0 : List AOp := q 11 (.faddr 0 1) :: q 12 (.load1 11) :: q 13 (.binI .lss 12 (ki 0)) :: q 14 (.mv 13) :: (q 15 (.faddr 0 1)).n 14 :: (q 16 (.load1 15)).n 14 :: (q 17 (.binI .gtr 16 (ki 99))).n 14 :: q 18 (.pick 14 (.c (.bool true)) 17) :: q 19 (.mv 18) :: (q 20 (.faddr 1 1)).n 19 :: (q 21 (.load1 20)).n 19 :: (q 22 (.binI .lss 21 (ki 0))).n 19 :: q 23 (.pick 19 (.c (.bool true)) 22) :: q 24 (.mv 23) :: (q 25 (.faddr 1 1)).n 24 :: (q 26 (.load1 25)).n 24 :: (q 27 (.binI .gtr 26 (ki 16384))).n 24 :: q 28 (.pick 24 (.c (.bool true)) 27) :: q 29 (.mv 28) :: (q 30 (.mv 3)).n 29 :: (q 31 (.binI .lss 30 (ki 1))).n 29 :: q 32 (.pick 29 (.c (.bool true)) 31) :: q 33 (.mv 32) :: (q 34 (.mv 3)).n 33 :: O11_7o1
def C11_47 : ACode := .s (.ops [q 58 (.faddr 5 5), q 59 (.load1 58), q 60 (.faddr 5 6), q0 (.store 1 60 59)]) (.ops [q 61 (.faddr 5 5), q 62 (.load1 61), q 63 (.binI .geq 62 (ki 0)), q 64 (.mv 63), (q 65 (.faddr 5 5)).y 64, (q 66 (.load1 65)).y 64, (q 67 (.mv 3)).y 64, (q 68 (.binI .lss 66 67)).y 64, q 69 (.pick 64 68 (.c (.bool false))), q 7 (.mv 69)])
def C11_53 : ACode := .cond 70 .skip (.s (.ops [q 72 (.binI .eql 49 (ku 5)), q 70 (.mv 72)]) (.cond 70 .skip (.ops [q 73 (.binI .eql 49 (ku 9)), q 70 (.mv 73)])))
def C11_61 : ACode := .s (.ops [q 74 (.faddr 6 5), q 75 (.load1 74), q 76 (.faddr 6 6), q0 (.store 1 76 75)]) (.ops [q 77 (.faddr 6 5), q 78 (.load1 77), q 79 (.binI .geq 78 (ki 1)), q 80 (.mv 79), (q 81 (.faddr 6 5)).y 80, (q 82 (.load1 81)).y 80, (q 83 (.faddr 0 1)).y 80, (q 84 (.load1 83)).y 80, (q 85 (.binI .leq 82 84)).y 80, q 86 (.pick 80 85 (.c (.bool false))), q 7 (.mv 86)])
def O11_69o1 : List AOp := q 7 (.mv 118) :: []
def O11_69o0 : List AOp := q 95 (.faddr 6 5) :: q 96 (.load1 95) :: q 97 (.binI .geq 96 (ki 1)) :: q 98 (.mv 97) :: (q 99 (.faddr 6 5)).y 98 :: (q 100 (.load1 99)).y 98 :: (q 101 (.faddr 0 1)).y 98 :: (q 102 (.load1 101)).y 98 :: (q 103 (.binI .leq 100 102)).y 98 :: q 104 (.pick 98 103 (.c (.bool false))) :: q 105 (.mv 104) :: (q 106 (.faddr 7 5)).y 105 :: (q 107 (.load1 106)).y 105 :: (q 108 (.faddr 6 5)).y 105 :: (q 109 (.load1 108)).y 105 :: (q 110 (.binI .geq 107 109)).y 105 :: q 111 (.pick 105 110 (.c (.bool false))) :: q 112 (.mv 111) :: (q 113 (.faddr 7 5)).y 112 :: (q 114 (.load1 113)).y 112 :: (q 115 (.faddr 0 1)).y 112 :: (q 116 (.load1 115)).y 112 :: (q 117 (.binI .leq 114 116)).y 112 :: q 118 (.pick 112 117 (.c (.bool false))) :: O11_69o1
def C11_77 : ACode := .s (.ops [q 122 (.faddr 8 5), q 123 (.load1 122), q 124 (.faddr 8 6), q0 (.store 1 124 123)]) (.ops [q 125 (.faddr 8 5), q 126 (.load1 125), q 127 (.binI .geq 126 (ki 0)), q 128 (.mv 127), (q 129 (.faddr 8 5)).y 128, (q 130 (.load1 129)).y 128, (q 131 (.faddr 1 1)).y 128, (q 132 (.load1 131)).y 128, (q 133 (.binI .lss 130 132)).y 128, q 134 (.pick 128 133 (.c (.bool false))), q 7 (.mv 134)])
def C11_64 : ACode := .s (.ops [q 88 (.binI .eql 49 (ku 6)), q 87 (.mv 88)]) (.cond 87 (.s (.draw [6] 0 0 [q 89 (.faddr 6 5), q 90 (.load1 89), q 91 (.faddr 7 5), q 92 (.load1 91), q 93 (.faddr 6 6), q0 (.store 1 93 90), q 94 (.faddr 7 6), q0 (.store 1 94 92)] []) (.ops O11_69o0)) (.s (.s (.ops [q 120 (.binI .eql 49 (ku 7)), q 119 (.mv 120)]) (.cond 119 .skip (.ops [q 121 (.binI .eql 49 (ku 8)), q 119 (.mv 121)]))) (.cond 119 C11_77 (.s (.s (.ops [q 136 (.binI .eql 49 (ku 10)), q 135 (.mv 136)]) (.cond 135 .skip (.s (.ops [q 137 (.binI .eql 49 (ku 11)), q 135 (.mv 137)]) (.cond 135 .skip (.ops [q 138 (.binI .eql 49 (ku 12)), q 135 (.mv 138)]))))) (.cond 135 .skip (.s (.ops [q 2 (.mv (.c (.bool false)))]) .ret))))))
def C11_95 : ACode := .s (.ops [q 139 (.mv 7), q 140 (.un .not 139), q 141 (.mv 140), (q 142 (.loadN 9 6)).n 141, (q 143 (.loadN 9 5)).n 141, (q 144 (.eqA true [.i, .i, .i, .i, .i, .i, .i, .i, .i] 142 143)).n 141, q 145 (.pick 141 (.c (.bool true)) 144), q 146 (.mv 145), (q 147 (.faddr 0 5)).n 146, (q 148 (.load1 147)).n 146, (q 149 (.binI .eql 148 (ku 12))).n 146, (q 150 (.mv 4)).n 146, (q 151 (.mv 3)).n 146, (q 152 (.binI .sub 151 (ki 1))).n 146, (q 153 (.binI .eql 150 152)).n 146, (q 154 (.eqB true 149 153)).n 146, q 155 (.pick 146 (.c (.bool true)) 154)]) (.cond 155 (.s (.ops [q 2 (.mv (.c (.bool false)))]) .ret) .skip)
def C11_26 : ACode := .s (.ops [q 42 (.mv 40), q 43 (.iaddrL 9 38 40), q 44 (.loadN 9 43), q 5 (.alloc [(.int .u8 0), (.int .u64 0), (.int .u64 0), (.int .u64 0), (.int .u64 0), (.int .i64 0), (.int .i64 0), (.int .i64 0), (.int .i64 0)]), q 4 (.mv 42), q0 (.store 9 5 44)]) (.s (.ops [q 45 (.faddr 0 5), q 46 (.load1 45), q 47 (.build [(.int .u8 0), (.int .u64 0), (.int .u64 0), (.int .u64 0), (.int .u64 0), (.int .i64 0), (.int .i64 0), (.int .i64 0), (.int .i64 0)] [(0, (1, 46))]), q 6 (.alloc [(.int .u8 0), (.int .u64 0), (.int .u64 0), (.int .u64 0), (.int .u64 0), (.int .i64 0), (.int .i64 0), (.int .i64 0), (.int .i64 0)]), q0 (.store 9 6 47)]) (.s (.ops [q 7 (.mv (.c (.bool true)))]) (.s (.s (.ops [q 48 (.faddr 0 5), q 49 (.load1 48)]) (.block 2 (.s (.ops [q 51 (.binI .eql 49 (ku 1)), q 50 (.mv 51)]) (.cond 50 (.ops [q 52 (.faddr 1 5), q 53 (.loadN 4 52), q 54 (.faddr 1 6), q0 (.store 4 54 53)]) (.s (.s (.ops [q 56 (.binI .eql 49 (ku 2)), q 55 (.mv 56)]) (.cond 55 .skip (.ops [q 57 (.binI .eql 49 (ku 3)), q 55 (.mv 57)]))) (.cond 55 C11_47 (.s (.s (.ops [q 71 (.binI .eql 49 (ku 4)), q 70 (.mv 71)]) C11_53) (.cond 70 C11_61 C11_64)))))))) C11_95)))
def C11_102 : ACode := .ops [q 156 (.binI .add 40 (ki 1)), q 40 (.mv 156)]
def C11_18 : ACode := .s (.ops [q 41 (.binI .lss 40 39)]) (.s (.cond 41 .skip (.exit 0)) (.s (.block 1 C11_26) C11_102))
def C11_103 : ACode := .s (.ops [q 2 (.mv (.c (.bool true)))]) .ret
def C11_1 : ACode := .s (.ops [q 1 (.boxD 3 0), q 2 (.mv (.c (.bool false)))]) (.s (.ops [q 8 (.faddr 2 1), q 9 (.load1 8), q 10 (.len 9), q 3 (.mv 10)]) (.s (.s (.ops O11_7o0) (.cond 36 (.s (.ops [q 2 (.mv (.c (.bool false)))]) .ret) .skip)) (.s (.s (.ops [q 37 (.faddr 2 1), q 38 (.load1 37), q 39 (.len 38), q 40 (.mv (ki 0))]) (.block 0 (.loop C11_18))) C11_103)))
def R11 : List RA := [(.tmp 2)]
theorem k11 : compF Try.prog (muL [1]) 11 = some ⟨157, C11_1, R11⟩ := by kernel_rfl
noncomputable abbrev X11 (r : Bool) : Cx := cD Try.prog noG 157 R11 (AV.bool r) [1]
inductive St11 where
 | p1 (p : T34) (n : Int) (t38_ : Sl T52) (t39_ : Int) (t40_ : Int)
 | p2 (p : T34) (n : Int) (i : Int) (ok : Bool) (t38_ : Sl T52) (t39_ : Int) (t40_ : Int) (x_ : T52) (plain : T52)
 | p3 (p : T34) (n : Int) (i : Int) (t38_ : Sl T52) (t39_ : Int) (t40_ : Int) (x_ : T52) (plain : T52)
 | p4 (p : T34) (n : Int) (i : Int) (t38_ : Sl T52) (t39_ : Int) (t40_ : Int) (x_ : T52) (plain : T52)
 | p5 (p : T34) (n : Int) (i : Int) (t38_ : Sl T52) (t39_ : Int) (t40_ : Int) (x_ : T52) (plain : T52)
noncomputable def G11 : St11 → Option Bool
 | .p1 p n t38_ t39_ t40_ =>
  (if (decide (t40_ < t39_)) = true then
   (ix (ls t38_) t40_ >>= fun v_8 =>
    (if (v_8.Kind == 1) = true then
     (G11 (.p2 p n t40_ true t38_ t39_ t40_ v_8 ({ Kind := v_8.Kind, Set := v_8.Set, To := 0, Group := 0, Last := 0, Slot := 0 } : T52)))
    else
     (if (v_8.Kind == 2) = true then
      (G11 (.p3 p n t40_ t38_ t39_ t40_ v_8 ({ Kind := v_8.Kind, Set := (Arr.rep 4 0), To := 0, Group := 0, Last := 0, Slot := 0 } : T52)))
     else
      (if (v_8.Kind == 3) = true then
       (G11 (.p3 p n t40_ t38_ t39_ t40_ v_8 ({ Kind := v_8.Kind, Set := (Arr.rep 4 0), To := 0, Group := 0, Last := 0, Slot := 0 } : T52)))
      else
       (if (v_8.Kind == 4) = true then
        (G11 (.p4 p n t40_ t38_ t39_ t40_ v_8 ({ Kind := v_8.Kind, Set := (Arr.rep 4 0), To := 0, Group := 0, Last := 0, Slot := 0 } : T52)))
       else
        (if (v_8.Kind == 5) = true then
         (G11 (.p4 p n t40_ t38_ t39_ t40_ v_8 ({ Kind := v_8.Kind, Set := (Arr.rep 4 0), To := 0, Group := 0, Last := 0, Slot := 0 } : T52)))
        else
         (if (v_8.Kind == 9) = true then
          (G11 (.p4 p n t40_ t38_ t39_ t40_ v_8 ({ Kind := v_8.Kind, Set := (Arr.rep 4 0), To := 0, Group := 0, Last := 0, Slot := 0 } : T52)))
         else
          (if (v_8.Kind == 6) = true then
           (if (decide (v_8.Group ≥ 1)) = true then
            (if (decide (v_8.Group ≤ p.Groups)) = true then
             (if (decide (v_8.Last ≥ v_8.Group)) = true then
              (G11 (.p2 p n t40_ (decide (v_8.Last ≤ p.Groups)) t38_ t39_ t40_ v_8 ({ Kind := v_8.Kind, Set := (Arr.rep 4 0), To := 0, Group := v_8.Group, Last := v_8.Last, Slot := 0 } : T52)))
             else
              (G11 (.p2 p n t40_ false t38_ t39_ t40_ v_8 ({ Kind := v_8.Kind, Set := (Arr.rep 4 0), To := 0, Group := v_8.Group, Last := v_8.Last, Slot := 0 } : T52))))
            else
             (G11 (.p2 p n t40_ false t38_ t39_ t40_ v_8 ({ Kind := v_8.Kind, Set := (Arr.rep 4 0), To := 0, Group := v_8.Group, Last := v_8.Last, Slot := 0 } : T52))))
           else
            (G11 (.p2 p n t40_ false t38_ t39_ t40_ v_8 ({ Kind := v_8.Kind, Set := (Arr.rep 4 0), To := 0, Group := v_8.Group, Last := v_8.Last, Slot := 0 } : T52))))
          else
           (if (v_8.Kind == 7) = true then
            (G11 (.p5 p n t40_ t38_ t39_ t40_ v_8 ({ Kind := v_8.Kind, Set := (Arr.rep 4 0), To := 0, Group := 0, Last := 0, Slot := 0 } : T52)))
           else
            (if (v_8.Kind == 8) = true then
             (G11 (.p5 p n t40_ t38_ t39_ t40_ v_8 ({ Kind := v_8.Kind, Set := (Arr.rep 4 0), To := 0, Group := 0, Last := 0, Slot := 0 } : T52)))
            else
             (if (v_8.Kind == 10) = true then
              (G11 (.p2 p n t40_ true t38_ t39_ t40_ v_8 ({ Kind := v_8.Kind, Set := (Arr.rep 4 0), To := 0, Group := 0, Last := 0, Slot := 0 } : T52)))
             else
              (if (v_8.Kind == 11) = true then
               (G11 (.p2 p n t40_ true t38_ t39_ t40_ v_8 ({ Kind := v_8.Kind, Set := (Arr.rep 4 0), To := 0, Group := 0, Last := 0, Slot := 0 } : T52)))
              else
               (if (v_8.Kind == 12) = true then
                (G11 (.p2 p n t40_ true t38_ t39_ t40_ v_8 ({ Kind := v_8.Kind, Set := (Arr.rep 4 0), To := 0, Group := 0, Last := 0, Slot := 0 } : T52)))
               else
                (some false))))))))))))))
  else
   (some true))
 | .p2 p n i ok t38_ t39_ t40_ x_ plain =>
  (if (!ok) = true then
   (some false)
  else
   (if (!decide (plain = x_)) = true then
    (some false)
   else
    (if (!((x_.Kind == 12) == (i == (IntKind.wrap .i64 (n - 1))))) = true then
     (some false)
    else
     (G11 (.p1 p n t38_ t39_ (IntKind.wrap .i64 (t40_ + 1)))))))
 | .p3 p n i t38_ t39_ t40_ x_ plain =>
  (if (decide (x_.To ≥ 0)) = true then
   (G11 (.p2 p n i (decide (x_.To < n)) t38_ t39_ t40_ x_ ({ plain with To := x_.To } : T52)))
  else
   (G11 (.p2 p n i false t38_ t39_ t40_ x_ ({ plain with To := x_.To } : T52))))
 | .p4 p n i t38_ t39_ t40_ x_ plain =>
  (if (decide (x_.Group ≥ 1)) = true then
   (G11 (.p2 p n i (decide (x_.Group ≤ p.Groups)) t38_ t39_ t40_ x_ ({ plain with Group := x_.Group } : T52)))
  else
   (G11 (.p2 p n i false t38_ t39_ t40_ x_ ({ plain with Group := x_.Group } : T52))))
 | .p5 p n i t38_ t39_ t40_ x_ plain =>
  (if (decide (x_.Slot ≥ 0)) = true then
   (G11 (.p2 p n i (decide (x_.Slot < p.Slots)) t38_ t39_ t40_ x_ ({ plain with Slot := x_.Slot } : T52)))
  else
   (G11 (.p2 p n i false t38_ t39_ t40_ x_ ({ plain with Slot := x_.Slot } : T52))))
 partial_fixpoint
def M11 (x : St11) (r : Bool) : Prop := match x with
 | .p1 p n t38_ t39_ t40_ => ∀ (tm : Fr) (st : Store), Frm tm [(1, .dptr (c34 p)), (3, AV.int .i64 n), (38, slV 9 v52 t38_), (39, AV.int .i64 t39_), (40, AV.int .i64 t40_)] → SH st [] → W (X11 r) [.lp C11_18, .blk 0, .code C11_103] tm st
 | .p2 p n i ok t38_ t39_ t40_ x_ plain => ∀ (tm : Fr) (st : Store) (io0 : Nat) (io1 : Nat), Frm tm [(1, .dptr (c34 p)), (3, AV.int .i64 n), (4, AV.int .i64 i), (5, .ptr io0 0), (6, .ptr io1 0), (7, AV.bool ok), (38, slV 9 v52 t38_), (39, AV.int .i64 t39_), (40, AV.int .i64 t40_)] → SH st [pt io0 (.cells (c52 x_)), pt io1 (.cells (c52 plain))] → W (X11 r) [.code C11_95, .blk 1, .code C11_102, .lp C11_18, .blk 0, .code C11_103] tm st
 | .p3 p n i t38_ t39_ t40_ x_ plain => ∀ (tm : Fr) (st : Store) (io0 : Nat) (io1 : Nat), Frm tm [(1, .dptr (c34 p)), (3, AV.int .i64 n), (4, AV.int .i64 i), (5, .ptr io0 0), (6, .ptr io1 0), (38, slV 9 v52 t38_), (39, AV.int .i64 t39_), (40, AV.int .i64 t40_)] → SH st [pt io0 (.cells (c52 x_)), pt io1 (.cells (c52 plain))] → W (X11 r) [.code C11_47, .blk 2, .code C11_95, .blk 1, .code C11_102, .lp C11_18, .blk 0, .code C11_103] tm st
 | .p4 p n i t38_ t39_ t40_ x_ plain => ∀ (tm : Fr) (st : Store) (io0 : Nat) (io1 : Nat), Frm tm [(1, .dptr (c34 p)), (3, AV.int .i64 n), (4, AV.int .i64 i), (5, .ptr io0 0), (6, .ptr io1 0), (38, slV 9 v52 t38_), (39, AV.int .i64 t39_), (40, AV.int .i64 t40_)] → SH st [pt io0 (.cells (c52 x_)), pt io1 (.cells (c52 plain))] → W (X11 r) [.code C11_61, .blk 2, .code C11_95, .blk 1, .code C11_102, .lp C11_18, .blk 0, .code C11_103] tm st
 | .p5 p n i t38_ t39_ t40_ x_ plain => ∀ (tm : Fr) (st : Store) (io0 : Nat) (io1 : Nat), Frm tm [(1, .dptr (c34 p)), (3, AV.int .i64 n), (4, AV.int .i64 i), (5, .ptr io0 0), (6, .ptr io1 0), (38, slV 9 v52 t38_), (39, AV.int .i64 t39_), (40, AV.int .i64 t40_)] → SH st [pt io0 (.cells (c52 x_)), pt io1 (.cells (c52 plain))] → W (X11 r) [.code C11_77, .blk 2, .code C11_95, .blk 1, .code C11_102, .lp C11_18, .blk 0, .code C11_103] tm st
theorem w11 : ∀ (x : St11) (r : Bool), G11 x = some r → M11 x r := by
 refine G11.partial_correctness (M11) ?_
 intro g ih x r hF
 cases x with
 | p1 p n t38_ t39_ t40_ =>
  dsimp only at hF
  intro tm st hf hs
  refine en hf ?_
  refine lp ?_
  refine rn 1 rfl ?_
  refine ci hF rfl (fun c_7 hF => ?_) (fun c_7 hF => ?_)
  · obtain ⟨v_8, g_9, hF⟩ := bind_some hF
    refine rn 1 rfl ?_
    refine W.o (e_iaddrL (rd_V rfl) rfl g_9) ?_
    refine W.o (lND (s := c52 v_8) rfl rfl rfl) ?_
    refine al hs (cs := c52 ({ Kind := 0, Set := (Arr.rep 4 0), To := 0, Group := 0, Last := 0, Slot := 0 } : T52)) rfl fun st b_10 hs => ?_
    refine rn 1 rfl ?_
    refine sr hs 0 rfl rfl rfl (cs' := c52 v_8) rfl rfl fun st hs => ?_
    refine rn 0 rfl ?_
    refine W.o (e_faddr rfl (hs.g 0 rfl)) ?_
    refine W.o (l1 rfl (hs.g 0 rfl) rfl) ?_
    refine W.o (bR (cs := c52 ({ Kind := v_8.Kind, Set := (Arr.rep 4 0), To := 0, Group := 0, Last := 0, Slot := 0 } : T52)) rfl rfl) ?_
    refine al hs (cs := c52 ({ Kind := 0, Set := (Arr.rep 4 0), To := 0, Group := 0, Last := 0, Slot := 0 } : T52)) rfl fun st b_11 hs => ?_
    refine sr hs 0 rfl rfl rfl (cs' := c52 ({ Kind := v_8.Kind, Set := (Arr.rep 4 0), To := 0, Group := 0, Last := 0, Slot := 0 } : T52)) rfl rfl fun st hs => ?_
    refine rn 1 rfl ?_
    refine W.o (e_faddr rfl (hs.g 1 rfl)) ?_
    refine W.o (l1 rfl (hs.g 1 rfl) rfl) ?_
    refine rn 2 rfl ?_
    refine ci hF rfl (fun c_12 hF => ?_) (fun c_12 hF => ?_)
    · refine rn 0 rfl ?_
      refine W.o (e_faddr rfl (hs.g 1 rfl)) ?_
      refine W.o (lN (s := c24 v_8.Set) rfl (hs.g 1 rfl) rfl rfl) ?_
      refine W.o (e_faddr rfl (hs.g 0 rfl)) ?_
      refine sr hs 0 rfl rfl rfl (cs' := c52 ({ Kind := v_8.Kind, Set := v_8.Set, To := 0, Group := 0, Last := 0, Slot := 0 } : T52)) rfl rfl fun st hs => ?_
      refine rj 0 2 rfl ?_
      exact ih (.p2 p n t40_ true t38_ t39_ t40_ v_8 ({ Kind := v_8.Kind, Set := v_8.Set, To := 0, Group := 0, Last := 0, Slot := 0 } : T52)) _ hF _ _ b_10 b_11 ⟨rfl, rfl, rfl, rfl, rfl, rfl, rfl, rfl, rfl, trivial⟩ (hs.p 2 [1, 0] rfl)
    · refine rn 2 rfl ?_
      refine ci hF rfl (fun c_13 hF => ?_) (fun c_13 hF => ?_)
      · refine rn 0 rfl ?_
        refine ct rfl c_13 ?_
        exact ih (.p3 p n t40_ t38_ t39_ t40_ v_8 ({ Kind := v_8.Kind, Set := (Arr.rep 4 0), To := 0, Group := 0, Last := 0, Slot := 0 } : T52)) _ hF _ _ b_10 b_11 ⟨rfl, rfl, rfl, rfl, rfl, rfl, rfl, rfl, trivial⟩ (hs.p 2 [1, 0] rfl)
      · refine rn 2 rfl ?_
        refine ci hF rfl (fun c_14 hF => ?_) (fun c_14 hF => ?_)
        · exact ih (.p3 p n t40_ t38_ t39_ t40_ v_8 ({ Kind := v_8.Kind, Set := (Arr.rep 4 0), To := 0, Group := 0, Last := 0, Slot := 0 } : T52)) _ hF _ _ b_10 b_11 ⟨rfl, rfl, rfl, rfl, rfl, rfl, rfl, rfl, trivial⟩ (hs.p 2 [1, 0] rfl)
        · refine rn 2 rfl ?_
          refine ci hF rfl (fun c_15 hF => ?_) (fun c_15 hF => ?_)
          · refine rn 0 rfl ?_
            refine ct rfl c_15 ?_
            exact ih (.p4 p n t40_ t38_ t39_ t40_ v_8 ({ Kind := v_8.Kind, Set := (Arr.rep 4 0), To := 0, Group := 0, Last := 0, Slot := 0 } : T52)) _ hF _ _ b_10 b_11 ⟨rfl, rfl, rfl, rfl, rfl, rfl, rfl, rfl, trivial⟩ (hs.p 2 [1, 0] rfl)
          · refine rn 2 rfl ?_
            refine ci hF rfl (fun c_16 hF => ?_) (fun c_16 hF => ?_)
            · refine rn 0 rfl ?_
              refine ct rfl c_16 ?_
              exact ih (.p4 p n t40_ t38_ t39_ t40_ v_8 ({ Kind := v_8.Kind, Set := (Arr.rep 4 0), To := 0, Group := 0, Last := 0, Slot := 0 } : T52)) _ hF _ _ b_10 b_11 ⟨rfl, rfl, rfl, rfl, rfl, rfl, rfl, rfl, trivial⟩ (hs.p 2 [1, 0] rfl)
            · refine rn 2 rfl ?_
              refine ci hF rfl (fun c_17 hF => ?_) (fun c_17 hF => ?_)
              · exact ih (.p4 p n t40_ t38_ t39_ t40_ v_8 ({ Kind := v_8.Kind, Set := (Arr.rep 4 0), To := 0, Group := 0, Last := 0, Slot := 0 } : T52)) _ hF _ _ b_10 b_11 ⟨rfl, rfl, rfl, rfl, rfl, rfl, rfl, rfl, trivial⟩ (hs.p 2 [1, 0] rfl)
              · refine rn 2 rfl ?_
                refine ci hF rfl (fun c_18 hF => ?_) (fun c_18 hF => ?_)
                · refine rn 0 rfl ?_
                  refine dr1 hs 0 rfl rfl rfl fun s_19 st h0 hs => ?_
                  refine de rfl (e_faddr rfl (h0.g 1 rfl)) ?_
                  refine de rfl (l1 rfl (h0.g 1 rfl) rfl) ?_
                  refine de rfl (e_faddr rfl (h0.g 1 rfl)) ?_
                  refine de rfl (l1 rfl (h0.g 1 rfl) rfl) ?_
                  refine de rfl (e_faddrH rfl (h0.g 0 rfl)) ?_
                  refine dsr' h0 0 hs 0 rfl rfl rfl rfl (cs' := c52 ({ Kind := v_8.Kind, Set := (Arr.rep 4 0), To := 0, Group := v_8.Group, Last := 0, Slot := 0 } : T52)) rfl rfl fun st hs => ?_
                  refine de rfl (e_faddrH rfl (h0.g 0 rfl)) ?_
                  refine dsr' h0 0 hs 0 rfl rfl rfl rfl (cs' := c52 ({ Kind := v_8.Kind, Set := (Arr.rep 4 0), To := 0, Group := v_8.Group, Last := v_8.Last, Slot := 0 } : T52)) rfl rfl fun st hs => ?_
                  refine dz ?_
                  refine rn 0 rfl ?_
                  refine W.o (e_faddr rfl (hs.g 1 rfl)) ?_
                  refine W.o (l1 rfl (hs.g 1 rfl) rfl) ?_
                  refine rn 2 rfl ?_
                  refine bi hF (fun c_20 hF => ?_) (fun c_20 hF => ?_)
                  · refine wfx 98 rfl c_20 ?_
                    refine W.on rfl rfl ?_
                    refine W.o (e_faddr rfl (hs.g 1 rfl)) ?_
                    refine W.on rfl rfl ?_
                    refine W.o (l1 rfl (hs.g 1 rfl) rfl) ?_
                    refine W.on rfl rfl ?_
                    refine W.o (e_faddrD rfl) ?_
                    refine W.on rfl rfl ?_
                    refine W.o (l1D rfl rfl) ?_
                    refine rn 3 rfl ?_
                    refine bi hF (fun c_21 hF => ?_) (fun c_21 hF => ?_)
                    · refine wfx 105 rfl c_21 ?_
                      refine W.on rfl rfl ?_
                      refine W.o (e_faddr rfl (hs.g 1 rfl)) ?_
                      refine W.on rfl rfl ?_
                      refine W.o (l1 rfl (hs.g 1 rfl) rfl) ?_
                      refine W.on rfl rfl ?_
                      refine W.o (e_faddr rfl (hs.g 1 rfl)) ?_
                      refine W.on rfl rfl ?_
                      refine W.o (l1 rfl (hs.g 1 rfl) rfl) ?_
                      refine rn 3 rfl ?_
                      refine bi hF (fun c_22 hF => ?_) (fun c_22 hF => ?_)
                      · refine wfx 112 rfl c_22 ?_
                        refine W.on rfl rfl ?_
                        refine W.o (e_faddr rfl (hs.g 1 rfl)) ?_
                        refine W.on rfl rfl ?_
                        refine W.o (l1 rfl (hs.g 1 rfl) rfl) ?_
                        refine W.on rfl rfl ?_
                        refine W.o (e_faddrD rfl) ?_
                        refine W.on rfl rfl ?_
                        refine W.o (l1D rfl rfl) ?_
                        refine rj 3 2 rfl ?_
                        exact ih (.p2 p n t40_ (decide (v_8.Last ≤ p.Groups)) t38_ t39_ t40_ v_8 ({ Kind := v_8.Kind, Set := (Arr.rep 4 0), To := 0, Group := v_8.Group, Last := v_8.Last, Slot := 0 } : T52)) _ hF _ _ b_10 b_11 ⟨rfl, rfl, rfl, rfl, rfl, rfl, rfl, rfl, rfl, trivial⟩ (hs.p 2 [1, 0] rfl)
                      · refine wfx 112 rfl c_22 ?_
                        refine rj 7 2 rfl ?_
                        exact ih (.p2 p n t40_ false t38_ t39_ t40_ v_8 ({ Kind := v_8.Kind, Set := (Arr.rep 4 0), To := 0, Group := v_8.Group, Last := v_8.Last, Slot := 0 } : T52)) _ hF _ _ b_10 b_11 ⟨rfl, rfl, rfl, rfl, rfl, rfl, rfl, rfl, rfl, trivial⟩ (hs.p 2 [1, 0] rfl)
                    · refine wfx 105 rfl c_21 ?_
                      refine rj 14 2 rfl ?_
                      exact ih (.p2 p n t40_ false t38_ t39_ t40_ v_8 ({ Kind := v_8.Kind, Set := (Arr.rep 4 0), To := 0, Group := v_8.Group, Last := v_8.Last, Slot := 0 } : T52)) _ hF _ _ b_10 b_11 ⟨rfl, rfl, rfl, rfl, rfl, rfl, rfl, rfl, rfl, trivial⟩ (hs.p 2 [1, 0] rfl)
                  · refine wfx 98 rfl c_20 ?_
                    refine rj 21 2 rfl ?_
                    exact ih (.p2 p n t40_ false t38_ t39_ t40_ v_8 ({ Kind := v_8.Kind, Set := (Arr.rep 4 0), To := 0, Group := v_8.Group, Last := v_8.Last, Slot := 0 } : T52)) _ hF _ _ b_10 b_11 ⟨rfl, rfl, rfl, rfl, rfl, rfl, rfl, rfl, rfl, trivial⟩ (hs.p 2 [1, 0] rfl)
                · refine rn 2 rfl ?_
                  refine ci hF rfl (fun c_23 hF => ?_) (fun c_23 hF => ?_)
                  · refine rn 0 rfl ?_
                    refine ct rfl c_23 ?_
                    exact ih (.p5 p n t40_ t38_ t39_ t40_ v_8 ({ Kind := v_8.Kind, Set := (Arr.rep 4 0), To := 0, Group := 0, Last := 0, Slot := 0 } : T52)) _ hF _ _ b_10 b_11 ⟨rfl, rfl, rfl, rfl, rfl, rfl, rfl, rfl, trivial⟩ (hs.p 2 [1, 0] rfl)
                  · refine rn 2 rfl ?_
                    refine ci hF rfl (fun c_24 hF => ?_) (fun c_24 hF => ?_)
                    · exact ih (.p5 p n t40_ t38_ t39_ t40_ v_8 ({ Kind := v_8.Kind, Set := (Arr.rep 4 0), To := 0, Group := 0, Last := 0, Slot := 0 } : T52)) _ hF _ _ b_10 b_11 ⟨rfl, rfl, rfl, rfl, rfl, rfl, rfl, rfl, trivial⟩ (hs.p 2 [1, 0] rfl)
                    · refine rn 2 rfl ?_
                      refine ci hF rfl (fun c_25 hF => ?_) (fun c_25 hF => ?_)
                      · refine rn 0 rfl ?_
                        refine ct rfl c_25 ?_
                        refine rj 0 2 rfl ?_
                        exact ih (.p2 p n t40_ true t38_ t39_ t40_ v_8 ({ Kind := v_8.Kind, Set := (Arr.rep 4 0), To := 0, Group := 0, Last := 0, Slot := 0 } : T52)) _ hF _ _ b_10 b_11 ⟨rfl, rfl, rfl, rfl, rfl, rfl, rfl, rfl, rfl, trivial⟩ (hs.p 2 [1, 0] rfl)
                      · refine rn 2 rfl ?_
                        refine ci hF rfl (fun c_26 hF => ?_) (fun c_26 hF => ?_)
                        · refine rn 0 rfl ?_
                          refine ct rfl c_26 ?_
                          refine rj 0 2 rfl ?_
                          exact ih (.p2 p n t40_ true t38_ t39_ t40_ v_8 ({ Kind := v_8.Kind, Set := (Arr.rep 4 0), To := 0, Group := 0, Last := 0, Slot := 0 } : T52)) _ hF _ _ b_10 b_11 ⟨rfl, rfl, rfl, rfl, rfl, rfl, rfl, rfl, rfl, trivial⟩ (hs.p 2 [1, 0] rfl)
                        · refine rn 2 rfl ?_
                          refine ci hF rfl (fun c_27 hF => ?_) (fun c_27 hF => ?_)
                          · refine rj 0 2 rfl ?_
                            exact ih (.p2 p n t40_ true t38_ t39_ t40_ v_8 ({ Kind := v_8.Kind, Set := (Arr.rep 4 0), To := 0, Group := 0, Last := 0, Slot := 0 } : T52)) _ hF _ _ b_10 b_11 ⟨rfl, rfl, rfl, rfl, rfl, rfl, rfl, rfl, rfl, trivial⟩ (hs.p 2 [1, 0] rfl)
                          · refine rn 1 rfl ?_
                            cases hF
                            exact rD (rlt rl0) rfl
  · refine rn 1 rfl ?_
    cases hF
    exact rD (rlt rl0) rfl
 | p2 p n i ok t38_ t39_ t40_ x_ plain =>
  dsimp only at hF
  intro tm st io0 io1 hf hs
  refine en hf ?_
  refine rn 3 rfl ?_
  refine bi hF (fun c_28 hF => ?_) (fun c_28 hF => ?_)
  · refine wfx 141 rfl c_28 ?_
    refine rn 14 rfl ?_
    refine ct rfl rfl ?_
    refine rn 1 rfl ?_
    cases hF
    exact rD (rlt rl0) rfl
  · refine wfx 141 rfl c_28 ?_
    refine W.on rfl rfl ?_
    refine W.o (lN (s := c52 plain) rfl (hs.g 1 rfl) rfl rfl) ?_
    refine W.on rfl rfl ?_
    refine W.o (lN (s := c52 x_) rfl (hs.g 0 rfl) rfl rfl) ?_
    refine W.on rfl rfl ?_
    refine W.o (e_neA rfl rfl (c52_eq plain x_)) ?_
    refine rn 2 rfl ?_
    refine bi hF (fun c_29 hF => ?_) (fun c_29 hF => ?_)
    · refine wfx 146 rfl c_29 ?_
      refine rn 9 rfl ?_
      refine ct rfl rfl ?_
      refine rn 1 rfl ?_
      cases hF
      exact rD (rlt rl0) rfl
    · refine wfx 146 rfl c_29 ?_
      refine W.on rfl rfl ?_
      refine W.o (e_faddr rfl (hs.g 0 rfl)) ?_
      refine W.on rfl rfl ?_
      refine W.o (l1 rfl (hs.g 0 rfl) rfl) ?_
      refine rn 7 rfl ?_
      refine ci hF rfl (fun c_30 hF => ?_) (fun c_30 hF => ?_)
      · refine rn 1 rfl ?_
        cases hF
        exact rD (rlt rl0) rfl
      · refine rn 2 rfl ?_
        exact ih (.p1 p n t38_ t39_ (IntKind.wrap .i64 (t40_ + 1))) _ hF _ _ ⟨rfl, rfl, rfl, rfl, rfl, trivial⟩ (hs.p 2 [] rfl)
 | p3 p n i t38_ t39_ t40_ x_ plain =>
  dsimp only at hF
  intro tm st io0 io1 hf hs
  refine en hf ?_
  refine rn 0 rfl ?_
  refine W.o (e_faddr rfl (hs.g 0 rfl)) ?_
  refine W.o (l1 rfl (hs.g 0 rfl) rfl) ?_
  refine W.o (e_faddr rfl (hs.g 1 rfl)) ?_
  refine sr hs 1 rfl rfl rfl (cs' := c52 ({ plain with To := x_.To } : T52)) rfl rfl fun st hs => ?_
  refine rn 0 rfl ?_
  refine W.o (e_faddr rfl (hs.g 0 rfl)) ?_
  refine W.o (l1 rfl (hs.g 0 rfl) rfl) ?_
  refine rn 2 rfl ?_
  refine bi hF (fun c_31 hF => ?_) (fun c_31 hF => ?_)
  · refine wfx 64 rfl c_31 ?_
    refine W.on rfl rfl ?_
    refine W.o (e_faddr rfl (hs.g 0 rfl)) ?_
    refine W.on rfl rfl ?_
    refine W.o (l1 rfl (hs.g 0 rfl) rfl) ?_
    refine rj 4 2 rfl ?_
    exact ih (.p2 p n i (decide (x_.To < n)) t38_ t39_ t40_ x_ ({ plain with To := x_.To } : T52)) _ hF _ _ io0 io1 ⟨rfl, rfl, rfl, rfl, rfl, rfl, rfl, rfl, rfl, trivial⟩ hs
  · refine wfx 64 rfl c_31 ?_
    refine rj 6 2 rfl ?_
    exact ih (.p2 p n i false t38_ t39_ t40_ x_ ({ plain with To := x_.To } : T52)) _ hF _ _ io0 io1 ⟨rfl, rfl, rfl, rfl, rfl, rfl, rfl, rfl, rfl, trivial⟩ hs
 | p4 p n i t38_ t39_ t40_ x_ plain =>
  dsimp only at hF
  intro tm st io0 io1 hf hs
  refine en hf ?_
  refine rn 0 rfl ?_
  refine W.o (e_faddr rfl (hs.g 0 rfl)) ?_
  refine W.o (l1 rfl (hs.g 0 rfl) rfl) ?_
  refine W.o (e_faddr rfl (hs.g 1 rfl)) ?_
  refine sr hs 1 rfl rfl rfl (cs' := c52 ({ plain with Group := x_.Group } : T52)) rfl rfl fun st hs => ?_
  refine rn 0 rfl ?_
  refine W.o (e_faddr rfl (hs.g 0 rfl)) ?_
  refine W.o (l1 rfl (hs.g 0 rfl) rfl) ?_
  refine rn 2 rfl ?_
  refine bi hF (fun c_32 hF => ?_) (fun c_32 hF => ?_)
  · refine wfx 80 rfl c_32 ?_
    refine W.on rfl rfl ?_
    refine W.o (e_faddr rfl (hs.g 0 rfl)) ?_
    refine W.on rfl rfl ?_
    refine W.o (l1 rfl (hs.g 0 rfl) rfl) ?_
    refine W.on rfl rfl ?_
    refine W.o (e_faddrD rfl) ?_
    refine W.on rfl rfl ?_
    refine W.o (l1D rfl rfl) ?_
    refine rj 3 2 rfl ?_
    exact ih (.p2 p n i (decide (x_.Group ≤ p.Groups)) t38_ t39_ t40_ x_ ({ plain with Group := x_.Group } : T52)) _ hF _ _ io0 io1 ⟨rfl, rfl, rfl, rfl, rfl, rfl, rfl, rfl, rfl, trivial⟩ hs
  · refine wfx 80 rfl c_32 ?_
    refine rj 7 2 rfl ?_
    exact ih (.p2 p n i false t38_ t39_ t40_ x_ ({ plain with Group := x_.Group } : T52)) _ hF _ _ io0 io1 ⟨rfl, rfl, rfl, rfl, rfl, rfl, rfl, rfl, rfl, trivial⟩ hs
 | p5 p n i t38_ t39_ t40_ x_ plain =>
  dsimp only at hF
  intro tm st io0 io1 hf hs
  refine en hf ?_
  refine rn 0 rfl ?_
  refine W.o (e_faddr rfl (hs.g 0 rfl)) ?_
  refine W.o (l1 rfl (hs.g 0 rfl) rfl) ?_
  refine W.o (e_faddr rfl (hs.g 1 rfl)) ?_
  refine sr hs 1 rfl rfl rfl (cs' := c52 ({ plain with Slot := x_.Slot } : T52)) rfl rfl fun st hs => ?_
  refine rn 0 rfl ?_
  refine W.o (e_faddr rfl (hs.g 0 rfl)) ?_
  refine W.o (l1 rfl (hs.g 0 rfl) rfl) ?_
  refine rn 2 rfl ?_
  refine bi hF (fun c_33 hF => ?_) (fun c_33 hF => ?_)
  · refine wfx 128 rfl c_33 ?_
    refine W.on rfl rfl ?_
    refine W.o (e_faddr rfl (hs.g 0 rfl)) ?_
    refine W.on rfl rfl ?_
    refine W.o (l1 rfl (hs.g 0 rfl) rfl) ?_
    refine W.on rfl rfl ?_
    refine W.o (e_faddrD rfl) ?_
    refine W.on rfl rfl ?_
    refine W.o (l1D rfl rfl) ?_
    refine rj 3 2 rfl ?_
    exact ih (.p2 p n i (decide (x_.Slot < p.Slots)) t38_ t39_ t40_ x_ ({ plain with Slot := x_.Slot } : T52)) _ hF _ _ io0 io1 ⟨rfl, rfl, rfl, rfl, rfl, rfl, rfl, rfl, rfl, trivial⟩ hs
  · refine wfx 128 rfl c_33 ?_
    refine rj 7 2 rfl ?_
    exact ih (.p2 p n i false t38_ t39_ t40_ x_ ({ plain with Slot := x_.Slot } : T52)) _ hF _ _ io0 io1 ⟨rfl, rfl, rfl, rfl, rfl, rfl, rfl, rfl, rfl, trivial⟩ hs
noncomputable def F11 (p : T34) : Option Bool :=
 (if (decide (p.Groups < 0)) = true then
  (some false)
 else
  (if (decide (p.Groups > 99)) = true then
   (some false)
  else
   (if (decide (p.Slots < 0)) = true then
    (some false)
   else
    (if (decide (p.Slots > 16384)) = true then
     (some false)
    else
     (if (decide (((ls p.Code).length : Int) < 1)) = true then
      (some false)
     else
      (if (decide (((ls p.Code).length : Int) > 16384)) = true then
       (some false)
      else
       (G11 (.p1 p ((ls p.Code).length : Int) p.Code ((ls p.Code).length : Int) 0))))))))
theorem d11 (p : T34) (r : Bool) (hF : F11 p = some r) : DFun Try.prog noG 11 [v34 p] (AV.bool r) := by
 unfold F11 at hF
 refine bD k11 rfl ?_
 have hs : SH [] [] := SH.nil
 generalize ([] : Store) = st at hs ⊢
 refine rn 0 rfl ?_
 refine W.o (e_boxD (cs := c34 p) rfl rfl (c34_one _)) ?_
 refine rn 1 rfl ?_
 refine W.o (e_faddrD rfl) ?_
 refine W.o (l1D rfl rfl) ?_
 refine W.o (e_len (rd_V rfl)) ?_
 refine rn 1 rfl ?_
 refine W.o (e_faddrD rfl) ?_
 refine W.o (l1D rfl rfl) ?_
 refine rn 2 rfl ?_
 refine bi hF (fun c_1 hF => ?_) (fun c_1 hF => ?_)
 · refine wfx 14 rfl c_1 ?_
   refine rn 22 rfl ?_
   refine ct rfl rfl ?_
   refine rn 1 rfl ?_
   cases hF
   exact rD (rlt rl0) rfl
 · refine wfx 14 rfl c_1 ?_
   refine W.on rfl rfl ?_
   refine W.o (e_faddrD rfl) ?_
   refine W.on rfl rfl ?_
   refine W.o (l1D rfl rfl) ?_
   refine rn 3 rfl ?_
   refine bi hF (fun c_2 hF => ?_) (fun c_2 hF => ?_)
   · refine wfx 19 rfl c_2 ?_
     refine rn 17 rfl ?_
     refine ct rfl rfl ?_
     refine rn 1 rfl ?_
     cases hF
     exact rD (rlt rl0) rfl
   · refine wfx 19 rfl c_2 ?_
     refine W.on rfl rfl ?_
     refine W.o (e_faddrD rfl) ?_
     refine W.on rfl rfl ?_
     refine W.o (l1D rfl rfl) ?_
     refine rn 3 rfl ?_
     refine bi hF (fun c_3 hF => ?_) (fun c_3 hF => ?_)
     · refine wfx 24 rfl c_3 ?_
       refine rn 12 rfl ?_
       refine ct rfl rfl ?_
       refine rn 1 rfl ?_
       cases hF
       exact rD (rlt rl0) rfl
     · refine wfx 24 rfl c_3 ?_
       refine W.on rfl rfl ?_
       refine W.o (e_faddrD rfl) ?_
       refine W.on rfl rfl ?_
       refine W.o (l1D rfl rfl) ?_
       refine rn 3 rfl ?_
       refine bi hF (fun c_4 hF => ?_) (fun c_4 hF => ?_)
       · refine wfx 29 rfl c_4 ?_
         refine rn 7 rfl ?_
         refine ct rfl rfl ?_
         refine rn 1 rfl ?_
         cases hF
         exact rD (rlt rl0) rfl
       · refine wfx 29 rfl c_4 ?_
         refine rn 4 rfl ?_
         refine bi hF (fun c_5 hF => ?_) (fun c_5 hF => ?_)
         · refine wfx 33 rfl c_5 ?_
           refine rn 3 rfl ?_
           refine ct rfl rfl ?_
           refine rn 1 rfl ?_
           cases hF
           exact rD (rlt rl0) rfl
         · refine wfx 33 rfl c_5 ?_
           refine rn 3 rfl ?_
           refine ci hF rfl (fun c_6 hF => ?_) (fun c_6 hF => ?_)
           · refine rn 1 rfl ?_
             cases hF
             exact rD (rlt rl0) rfl
           · refine rn 0 rfl ?_
             refine W.o (e_faddrD rfl) ?_
             refine W.o (l1D rfl rfl) ?_
             refine W.o (e_len (rd_V rfl)) ?_
             refine rn 1 rfl ?_
             exact w11 (.p1 p ((ls p.Code).length : Int) p.Code ((ls p.Code).length : Int) 0) _ hF _ _ ⟨rfl, rfl, rfl, rfl, rfl, trivial⟩ hs
/-! ### 32: paddock/nfa.fault -/
def C32_1 : ACode := .s (.ops [q 1 (.boxD 3 0), q 2 (.mv (ki 0))]) (.s (.s (.ops [q 3 (.loadN 3 1), qc 4 11 [3], q 5 (.un .not 4)]) (.cond 5 (.s (.ops [q 2 (.mv (ki 100))]) .ret) .skip)) (.s (.s (.ops [q 6 (.loadN 3 1), qc 7 42 [6]]) (.cond 7 (.s (.ops [q 2 (.mv (ki 101))]) .ret) .skip)) (.s (.ops [q 2 (.mv (ki 0))]) .ret)))
def R32 : List RA := [(.tmp 2)]
theorem k32 : compF Try.prog (muL [1]) 32 = some ⟨8, C32_1, R32⟩ := by kernel_rfl
noncomputable abbrev X32 (r : Int) : Cx := cD Try.prog noG 8 R32 (AV.int .i64 r) [1]
noncomputable def F32 (p : T34) : Option Int :=
 (F11 p >>= fun r_1 =>
  (if (!r_1) = true then
   (some 100)
  else
   (F42 p >>= fun r_4 =>
    (if r_4 = true then
     (some 101)
    else
     (some 0)))))
theorem d32 (p : T34) (r : Int) (hF : F32 p = some r) : DFun Try.prog noG 32 [v34 p] (AV.int .i64 r) := by
 unfold F32 at hF
 refine bD k32 rfl ?_
 have hs : SH [] [] := SH.nil
 generalize ([] : Store) = st at hs ⊢
 refine rn 0 rfl ?_
 refine W.o (e_boxD (cs := c34 p) rfl rfl (c34_one _)) ?_
 refine rn 1 rfl ?_
 refine W.o (lND (s := c34 p) rfl rfl rfl) ?_
 obtain ⟨r_1, g_2, hF⟩ := bind_some hF
 refine df (d11 p _ g_2) rfl ?_
 refine rn 1 rfl ?_
 refine ci hF rfl (fun c_3 hF => ?_) (fun c_3 hF => ?_)
 · refine rn 1 rfl ?_
   cases hF
   exact rD (rlt rl0) rfl
 · refine rn 0 rfl ?_
   refine W.o (lND (s := c34 p) rfl rfl rfl) ?_
   obtain ⟨r_4, g_5, hF⟩ := bind_some hF
   refine df (d42 p _ g_5) rfl ?_
   refine rn 0 rfl ?_
   refine ci hF rfl (fun c_6 hF => ?_) (fun c_6 hF => ?_)
   · refine rn 1 rfl ?_
     cases hF
     exact rD (rlt rl0) rfl
   · refine rn 1 rfl ?_
     cases hF
     exact rD (rlt rl0) rfl
/-! ### 23: paddock/nfa.Match -/
def C23_17 : ACode := .s (.ops [q 26 (.build [(.int .i64 0), (.int .i64 0)] []), q0 (.store 2 6 26), q 7 (.mv (.c (.bool false))), q 8 (.mv (ki 2))]) .ret
def C23_36 : ACode := .s (.ops [q 38 (.mv 11), q 39 (.len 38), q 40 (.binI .gtr 39 (ki 0))]) (.cond 40 (.s (.ops [q 41 (.mv 10), q 42 (.mv 11), q 43 (.mv 11), q 44 (.len 43), q 45 (.binI .sub 44 (ki 1)), q 46 (.iaddrL 1 42 45), q 47 (.load1 46), q 48 (.build [(.int .i64 0), (.int .i64 0)] [(0, (1, 41)), (1, (1, 47))]), q0 (.store 2 6 48), q 7 (.mv (.c (.bool true))), q 8 (.mv (ki 0))]) .ret) .skip)
def C23_26 : ACode := .s (.s (.ops [q 28 (.mv 10), q 29 (.mv 1), q 30 (.lenS 29), q 31 (.binI .leq 28 30)]) (.cond 31 .skip (.exit 0))) (.s (.block 1 (.s (.ops [q 34 (.loadN 3 3), q 35 (.mv 1), q 36 (.mv 10), qc 37 33 [34, 35, 36], q 11 (.mv 37)]) C23_36)) (.ops [q 32 (.mv 10), q 33 (.binI .add 32 (ki 1)), q 10 (.mv 33)]))
def C23_44 : ACode := .s (.ops [q 49 (.build [(.int .i64 0), (.int .i64 0)] []), q0 (.store 2 6 49), q 7 (.mv (.c (.bool false))), q 8 (.mv (ki 0))]) .ret
def C23_21 : ACode := .s (.s (.ops [q 27 (.mv 2), q 10 (.mv 27)]) (.block 0 (.loop C23_26))) C23_44
def C23_1 : ACode := .s (.ops [q 3 (.boxD 3 0), q 6 (.alloc [(.int .i64 0), (.int .i64 0)]), q 7 (.mv (.c (.bool false))), q 8 (.mv (ki 0))]) (.s (.s (.ops [q 12 (.loadN 3 3), qc 13 32 [12], q 9 (.mv 13)]) (.s (.ops [q 14 (.mv 9), q 15 (.binI .neq 14 (ki 0))]) (.cond 15 (.s (.ops [q 16 (.build [(.int .i64 0), (.int .i64 0)] []), q 17 (.mv 9), q0 (.store 2 6 16), q 7 (.mv (.c (.bool false))), q 8 (.mv 17)]) .ret) .skip))) (.s (.s (.ops [q 18 (.mv 2), q 19 (.binI .lss 18 (ki 0)), q 20 (.mv 19), (q 21 (.mv 2)).n 20, (q 22 (.mv 1)).n 20, (q 23 (.lenS 22)).n 20, (q 24 (.binI .gtr 21 23)).n 20, q 25 (.pick 20 (.c (.bool true)) 24)]) (.cond 25 C23_17 .skip)) C23_21))
def R23 : List RA := [(.cellN 6 2), (.tmp 7), (.tmp 8)]
theorem k23 : compF Try.prog (muL [3]) 23 = some ⟨50, C23_1, R23⟩ := by kernel_rfl
noncomputable abbrev X23 (r : T56 × Bool × Int) : Cx := cD Try.prog noG 50 R23 (AV.tup [v56 r.1, AV.bool r.2.1, AV.int .i64 r.2.2]) [3]
inductive St23 where
 | p1 (t6_ : T56)
 | p2 (s : Str) (p : T34) (i : Int) (t6_ : T56)
noncomputable def G23 : St23 → Option (T56 × Bool × Int)
 | .p1 t6_ =>
  (some (({ From := 0, To := 0 } : T56), false, 2))
 | .p2 s p i t6_ =>
  (if (decide (i ≤ ((s).length : Int))) = true then
   (F33 p s i >>= fun r_8 =>
    (if (decide (((ls r_8).length : Int) > 0)) = true then
     (ix (ls r_8) (IntKind.wrap .i64 (((ls r_8).length : Int) - 1)) >>= fun v_11 =>
      (some (({ From := i, To := v_11 } : T56), true, 0)))
    else
     (G23 (.p2 s p (IntKind.wrap .i64 (i + 1)) t6_))))
  else
   (some (({ From := 0, To := 0 } : T56), false, 0)))
 partial_fixpoint
def M23 (x : St23) (r : T56 × Bool × Int) : Prop := match x with
 | .p1 t6_ => ∀ (tm : Fr) (st : Store) (io0 : Nat), Frm tm [(6, .ptr io0 0)] → SH st [pt io0 (.cells (c56 t6_))] → W (X23 r) [.code C23_17, .code C23_21] tm st
 | .p2 s p i t6_ => ∀ (tm : Fr) (st : Store) (io0 : Nat), Frm tm [(1, AV.str s), (3, .dptr (c34 p)), (6, .ptr io0 0), (10, AV.int .i64 i)] → SH st [pt io0 (.cells (c56 t6_))] → W (X23 r) [.lp C23_26, .blk 0, .code C23_44] tm st
theorem w23 : ∀ (x : St23) (r : T56 × Bool × Int), G23 x = some r → M23 x r := by
 refine G23.partial_correctness (M23) ?_
 intro g ih x r hF
 cases x with
 | p1 t6_ =>
  dsimp only at hF
  intro tm st io0 hf hs
  refine en hf ?_
  refine rn 0 rfl ?_
  refine W.o (bR (cs := c56 ({ From := 0, To := 0 } : T56)) rfl rfl) ?_
  refine sr hs 0 rfl rfl rfl (cs' := c56 ({ From := 0, To := 0 } : T56)) rfl rfl fun st hs => ?_
  refine rn 2 rfl ?_
  cases hF
  exact rD (rl_cellN rfl (hs.g 0 rfl) (LR.whole _ _) (c56_len _) (rlt (rlt rl0))) rfl
 | p2 s p i t6_ =>
  dsimp only at hF
  intro tm st io0 hf hs
  refine en hf ?_
  refine lp ?_
  refine rn 4 rfl ?_
  refine ci hF rfl (fun c_7 hF => ?_) (fun c_7 hF => ?_)
  · refine rn 0 rfl ?_
    refine W.o (lND (s := c34 p) rfl rfl rfl) ?_
    obtain ⟨r_8, g_9, hF⟩ := bind_some hF
    refine rn 2 rfl ?_
    refine df (d33 p s i _ g_9) rfl ?_
    refine rn 2 rfl ?_
    refine W.o (e_len (rd_V rfl)) ?_
    refine rn 1 rfl ?_
    refine ci hF rfl (fun c_10 hF => ?_) (fun c_10 hF => ?_)
    · refine rn 3 rfl ?_
      refine W.o (e_len (rd_V rfl)) ?_
      obtain ⟨v_11, g_12, hF⟩ := bind_some hF
      refine rn 1 rfl ?_
      refine W.o (e_iaddrL (rd_V rfl) rfl g_12) ?_
      refine W.o (l1D rfl rfl) ?_
      refine W.o (bR (cs := c56 ({ From := i, To := v_11 } : T56)) rfl rfl) ?_
      refine sr hs 0 rfl rfl rfl (cs' := c56 ({ From := i, To := v_11 } : T56)) rfl rfl fun st hs => ?_
      refine rn 2 rfl ?_
      cases hF
      exact rD (rl_cellN rfl (hs.g 0 rfl) (LR.whole _ _) (c56_len _) (rlt (rlt rl0))) rfl
    · refine rn 3 rfl ?_
      exact ih (.p2 s p (IntKind.wrap .i64 (i + 1)) t6_) _ hF _ _ io0 ⟨rfl, rfl, rfl, rfl, trivial⟩ hs
  · refine rn 0 rfl ?_
    refine W.o (bR (cs := c56 ({ From := 0, To := 0 } : T56)) rfl rfl) ?_
    refine sr hs 0 rfl rfl rfl (cs' := c56 ({ From := 0, To := 0 } : T56)) rfl rfl fun st hs => ?_
    refine rn 2 rfl ?_
    cases hF
    exact rD (rl_cellN rfl (hs.g 0 rfl) (LR.whole _ _) (c56_len _) (rlt (rlt rl0))) rfl
noncomputable def F23 (p : T34) (s : Str) (from_ : Int) : Option (T56 × Bool × Int) :=
 (F32 p >>= fun r_2 =>
  (if (r_2 != 0) = true then
   (some (({ From := 0, To := 0 } : T56), false, r_2))
  else
   (if (decide (from_ < 0)) = true then
    (G23 (.p1 ({ From := 0, To := 0 } : T56)))
   else
    (if (decide (from_ > ((s).length : Int))) = true then
     (G23 (.p1 ({ From := 0, To := 0 } : T56)))
    else
     (G23 (.p2 s p from_ ({ From := 0, To := 0 } : T56)))))))
theorem d23 (p : T34) (s : Str) (from_ : Int) (r : T56 × Bool × Int) (hF : F23 p s from_ = some r) : DFun Try.prog noG 23 [v34 p, AV.str s, AV.int .i64 from_] (AV.tup [v56 r.1, AV.bool r.2.1, AV.int .i64 r.2.2]) := by
 unfold F23 at hF
 refine bD k23 rfl ?_
 have hs : SH [] [] := SH.nil
 generalize ([] : Store) = st at hs ⊢
 refine rn 0 rfl ?_
 refine W.o (e_boxD (cs := c34 p) rfl rfl (c34_one _)) ?_
 refine al hs (cs := c56 ({ From := 0, To := 0 } : T56)) rfl fun st b_1 hs => ?_
 refine rn 2 rfl ?_
 refine W.o (lND (s := c34 p) rfl rfl rfl) ?_
 obtain ⟨r_2, g_3, hF⟩ := bind_some hF
 refine df (d32 p _ g_3) rfl ?_
 refine rn 3 rfl ?_
 refine ci hF rfl (fun c_4 hF => ?_) (fun c_4 hF => ?_)
 · refine rn 0 rfl ?_
   refine W.o (bR (cs := c56 ({ From := 0, To := 0 } : T56)) rfl rfl) ?_
   refine rn 1 rfl ?_
   refine sr hs 0 rfl rfl rfl (cs' := c56 ({ From := 0, To := 0 } : T56)) rfl rfl fun st hs => ?_
   refine rn 2 rfl ?_
   cases hF
   exact rD (rl_cellN rfl (hs.g 0 rfl) (LR.whole _ _) (c56_len _) (rlt (rlt rl0))) rfl
 · refine rn 3 rfl ?_
   refine bi hF (fun c_5 hF => ?_) (fun c_5 hF => ?_)
   · refine wfx 20 rfl c_5 ?_
     refine rn 5 rfl ?_
     refine ct rfl rfl ?_
     exact w23 (.p1 ({ From := 0, To := 0 } : T56)) _ hF _ _ b_1 ⟨rfl, trivial⟩ hs
   · refine wfx 20 rfl c_5 ?_
     refine rn 5 rfl ?_
     refine ci hF rfl (fun c_6 hF => ?_) (fun c_6 hF => ?_)
     · exact w23 (.p1 ({ From := 0, To := 0 } : T56)) _ hF _ _ b_1 ⟨rfl, trivial⟩ hs
     · refine rn 2 rfl ?_
       exact w23 (.p2 s p from_ ({ From := 0, To := 0 } : T56)) _ hF _ _ b_1 ⟨rfl, rfl, rfl, rfl, trivial⟩ hs
/-! ### 8: paddock/paddocklaw10.begins -/
def O8_14o1 : List AOp := (q 55 (.loadN 2 7)).y 54 :: (q 56 (.build [(.int .i64 0), (.int .i64 0)] [(0, (1, (ki 1))), (1, (1, (ki 3)))])).y 54 :: (q 57 (.eqA false [.i, .i] 55 56)).y 54 :: q 58 (.pick 54 57 (.c (.bool false))) :: q 0 (.mv 58) :: []
def O8_14o0 : List AOp := q 31 (.mv 4) :: q 32 (.binI .eql 31 (ki 0)) :: q 33 (.mv 32) :: (q 34 (.mv 6)).y 33 :: (q 35 (.binI .eql 34 (ki 0))).y 33 :: q 36 (.pick 33 35 (.c (.bool false))) :: q 37 (.mv 36) :: (q 38 (.mv 5)).y 37 :: (q 39 (.binI .eql 38 (ki 7))).y 37 :: q 40 (.pick 37 39 (.c (.bool false))) :: q 41 (.mv 40) :: (q 42 (.faddr 2 3)).y 41 :: (q 43 (.load1 42)).y 41 :: (q 44 (.len 43)).y 41 :: (q 45 (.binI .eql 44 (ki 7))).y 41 :: q 46 (.pick 41 45 (.c (.bool false))) :: q 47 (.mv 46) :: (q 48 (.mv 9)).y 47 :: (q 49 (.binI .eql 48 (ki 0))).y 47 :: q 50 (.pick 47 49 (.c (.bool false))) :: q 51 (.mv 50) :: (q 52 (.mv 8)).y 51 :: q 53 (.pick 51 52 (.c (.bool false))) :: q 54 (.mv 53) :: O8_14o1
def C8_1 : ACode := .s (.ops [q 0 (.mv (.c (.bool false)))]) (.s (.ops [q 10 (.build [(.int .u64 0), (.int .u64 0), (.int .u64 0), (.int .u64 0)] [(0, (1, (.c (.int .u64 0)))), (1, (1, (.c (.int .u64 8589934592))))]), q 1 (.alloc [(.int .u64 0), (.int .u64 0), (.int .u64 0), (.int .u64 0)]), q0 (.store 4 1 10)]) (.s (.ops [q 11 (.loadN 4 1), q 12 (.build [(.int .u8 0), (.int .u64 0), (.int .u64 0), (.int .u64 0), (.int .u64 0), (.int .i64 0), (.int .i64 0), (.int .i64 0), .nils] [(0, (1, (ku 2))), (1, (4, 11))]), q 13 (.bslD 9 1 true [(.int .u8 0), (.int .u64 0), (.int .u64 0), (.int .u64 0), (.int .u64 0), (.int .i64 0), (.int .i64 0), (.int .i64 0), .nils] [(0, (9, 12))]), q 14 (.build [(.int .u8 0), (.int .u64 0), (.int .u64 0), (.int .u64 0), (.int .u64 0), (.int .i64 0), (.int .i64 0), (.int .i64 0), .nils] [(0, (1, (ku 5))), (5, (1, (ki 1))), (6, (1, (ki (-1)))), (8, (1, 13))]), q 2 (.alloc [(.int .u8 0), (.int .u64 0), (.int .u64 0), (.int .u64 0), (.int .u64 0), (.int .i64 0), (.int .i64 0), (.int .i64 0), .nils]), q0 (.store 9 2 14)]) (.s (.ops [q 16 (.loadN 9 2), qc 17 10 [16], q 15 (.mv 17), q 18 (.extract 15 0), q 19 (.extract 15 1), q 3 (.alloc [(.int .i64 0), (.int .i64 0), .nils]), q0 (.store 3 3 18), q 4 (.mv 19)]) (.s (.ops [q 21 (.loadN 9 2), qc 22 9 [21], q 20 (.mv 22), q 23 (.extract 20 0), q 24 (.extract 20 1), q 5 (.mv 23), q 6 (.mv 24)]) (.s (.ops [q 26 (.loadN 3 3), qc 27 23 [26, (.c (.str [98, 97, 97])), (ki 0)], q 25 (.mv 27), q 28 (.extract 25 0), q 29 (.extract 25 1), q 30 (.extract 25 2), q 7 (.alloc [(.int .i64 0), (.int .i64 0)]), q0 (.store 2 7 28), q 8 (.mv 29), q 9 (.mv 30)]) (.s (.ops O8_14o0) .ret))))))
def R8 : List RA := [(.tmp 0)]
theorem k8 : compF Try.prog (muL [13]) 8 = some ⟨59, C8_1, R8⟩ := by kernel_rfl
noncomputable abbrev X8 (r : Bool) : Cx := cD Try.prog noG 59 R8 (AV.bool r) [13]
noncomputable def F8  : Option Bool :=
 (F10 ({ Kind := 5, Set := (Arr.rep 4 0), Min := 1, Max := (-1), Group := 0, Kids := (some ([({ Kind := 2, Set := (aset (aset (Arr.rep 4 0) 0 0) 1 8589934592), Min := 0, Max := 0, Group := 0, Kids := none } : T27)] : List T27)) } : T27) >>= fun r_3 =>
  (F9 ({ Kind := 5, Set := (Arr.rep 4 0), Min := 1, Max := (-1), Group := 0, Kids := (some ([({ Kind := 2, Set := (aset (aset (Arr.rep 4 0) 0 0) 1 8589934592), Min := 0, Max := 0, Group := 0, Kids := none } : T27)] : List T27)) } : T27) >>= fun r_6 =>
   (F23 r_3.1 ([98, 97, 97] : Str) 0 >>= fun r_8 =>
    (if (r_3.2 == 0) = true then
     (if (r_6.2 == 0) = true then
      (if (r_6.1 == 7) = true then
       (if (((ls r_3.1.Code).length : Int) == 7) = true then
        (if (r_8.2.2 == 0) = true then
         (if r_8.2.1 = true then
          (some (decide (r_8.1 = ({ From := 1, To := 3 } : T56))))
         else
          (some false))
        else
         (some false))
       else
        (some false))
      else
       (some false))
     else
      (some false))
    else
     (some false)))))
theorem d8  (r : Bool) (hF : F8 = some r) : DFun Try.prog noG 8 [] (AV.bool r) := by
 unfold F8 at hF
 refine bD k8 rfl ?_
 have hs : SH [] [] := SH.nil
 generalize ([] : Store) = st at hs ⊢
 refine rn 1 rfl ?_
 refine W.o (e_build (z := [(.int .u64 0), (.int .u64 0), (.int .u64 0), (.int .u64 0)]) (cs := c24 (aset (aset (Arr.rep 4 0) 0 0) 1 8589934592)) (pk_cons (cs := cI .u64 0) rfl rfl ((cI_len .u64) _) (by decide) (pk_cons (cs := cI .u64 8589934592) rfl rfl ((cI_len .u64) _) (by decide) pk_nil)) (show fillA (c24 (Arr.rep 4 0)) _ = _ from (fl_cons (lrF_set (i := 0) (x := 0) (cI_len .u64) rfl 0) (((cI_len .u64) _).trans ((cI_len .u64) _).symm) (fl_cons (lrF_set (i := 1) (x := 0) (cI_len .u64) rfl 8589934592) (((cI_len .u64) _).trans ((cI_len .u64) _).symm) (fl_nil _))))) ?_
 refine al hs (cs := c24 (Arr.rep 4 0)) rfl fun st b_1 hs => ?_
 refine sr hs 0 rfl rfl rfl (cs' := c24 (aset (aset (Arr.rep 4 0) 0 0) 1 8589934592)) rfl rfl fun st hs => ?_
 refine rn 0 rfl ?_
 refine W.o (lN (s := c24 (aset (aset (Arr.rep 4 0) 0 0) 1 8589934592)) rfl (hs.g 0 rfl) rfl rfl) ?_
 refine W.o (e_build (z := [(.int .u8 0), (.int .u64 0), (.int .u64 0), (.int .u64 0), (.int .u64 0), (.int .i64 0), (.int .i64 0), (.int .i64 0), .nils]) (cs := c27 ({ Kind := 2, Set := (aset (aset (Arr.rep 4 0) 0 0) 1 8589934592), Min := 0, Max := 0, Group := 0, Kids := none } : T27)) (pk_cons (cs := cI .u8 2) rfl rfl ((cI_len .u8) _) (by decide) (pk_cons (cs := c24 (aset (aset (Arr.rep 4 0) 0 0) 1 8589934592)) rfl rfl (c24_len _) (by decide) pk_nil)) (show fillA (c27 ({ Kind := 0, Set := (Arr.rep 4 0), Min := 0, Max := 0, Group := 0, Kids := none } : T27)) _ = _ from (fl_cons (lr27_Kind ({ Kind := 0, Set := (Arr.rep 4 0), Min := 0, Max := 0, Group := 0, Kids := none } : T27) 2) (((cI_len .u8) _).trans ((cI_len .u8) _).symm) (fl_cons (lr27_Set ({ Kind := 2, Set := (Arr.rep 4 0), Min := 0, Max := 0, Group := 0, Kids := none } : T27) (aset (aset (Arr.rep 4 0) 0 0) 1 8589934592)) ((c24_len _).trans (c24_len _).symm) (fl_nil _))))) ?_
 refine W.o (e_bslG (f := v27) (c := c27) ([({ Kind := 2, Set := (aset (aset (Arr.rep 4 0) 0 0) 1 8589934592), Min := 0, Max := 0, Group := 0, Kids := none } : T27)] : List T27) (pk_cons (cs := c27 ({ Kind := 2, Set := (aset (aset (Arr.rep 4 0) 0 0) 1 8589934592), Min := 0, Max := 0, Group := 0, Kids := none } : T27)) rfl rfl (c27_len _) (by decide) pk_nil) rfl rfl c27_len c27_one (fun _ => rfl) rfl) ?_
 refine W.o (e_build (z := [(.int .u8 0), (.int .u64 0), (.int .u64 0), (.int .u64 0), (.int .u64 0), (.int .i64 0), (.int .i64 0), (.int .i64 0), .nils]) (cs := c27 ({ Kind := 5, Set := (Arr.rep 4 0), Min := 1, Max := (-1), Group := 0, Kids := (some ([({ Kind := 2, Set := (aset (aset (Arr.rep 4 0) 0 0) 1 8589934592), Min := 0, Max := 0, Group := 0, Kids := none } : T27)] : List T27)) } : T27)) (pk_cons (cs := cI .u8 5) rfl rfl ((cI_len .u8) _) (by decide) (pk_cons (cs := cI .i64 1) rfl rfl ((cI_len .i64) _) (by decide) (pk_cons (cs := cI .i64 (-1)) rfl rfl ((cI_len .i64) _) (by decide) (pk_cons (cs := cSl 9 v27 (some ([({ Kind := 2, Set := (aset (aset (Arr.rep 4 0) 0 0) 1 8589934592), Min := 0, Max := 0, Group := 0, Kids := none } : T27)] : List T27))) (v := slV 9 v27 (some ([({ Kind := 2, Set := (aset (aset (Arr.rep 4 0) 0 0) 1 8589934592), Min := 0, Max := 0, Group := 0, Kids := none } : T27)] : List T27))) rfl slV_cells (cSl_len _) (by decide) pk_nil)))) (show fillA (c27 ({ Kind := 0, Set := (Arr.rep 4 0), Min := 0, Max := 0, Group := 0, Kids := none } : T27)) _ = _ from (fl_cons (lr27_Kind ({ Kind := 0, Set := (Arr.rep 4 0), Min := 0, Max := 0, Group := 0, Kids := none } : T27) 5) (((cI_len .u8) _).trans ((cI_len .u8) _).symm) (fl_cons (lr27_Min ({ Kind := 5, Set := (Arr.rep 4 0), Min := 0, Max := 0, Group := 0, Kids := none } : T27) 1) (((cI_len .i64) _).trans ((cI_len .i64) _).symm) (fl_cons (lr27_Max ({ Kind := 5, Set := (Arr.rep 4 0), Min := 1, Max := 0, Group := 0, Kids := none } : T27) (-1)) (((cI_len .i64) _).trans ((cI_len .i64) _).symm) (fl_cons (lr27_Kids ({ Kind := 5, Set := (Arr.rep 4 0), Min := 1, Max := (-1), Group := 0, Kids := none } : T27) (some ([({ Kind := 2, Set := (aset (aset (Arr.rep 4 0) 0 0) 1 8589934592), Min := 0, Max := 0, Group := 0, Kids := none } : T27)] : List T27))) ((cSl_len _).trans (cSl_len _).symm) (fl_nil _))))))) ?_
 refine al hs (cs := c27 ({ Kind := 0, Set := (Arr.rep 4 0), Min := 0, Max := 0, Group := 0, Kids := none } : T27)) rfl fun st b_2 hs => ?_
 refine sl hs 0 rfl rfl (LR.whole _ _) (c27_len _) rfl (c27_len _) (c27_one _) rfl fun st hs => ?_
 refine rn 0 rfl ?_
 refine W.o (e_loadN rfl (hs.g 0 rfl) (LR.whole _ _) (c27_len _)) ?_
 obtain ⟨r_3, g_4, hF⟩ := bind_some hF
 refine df (d10 ({ Kind := 5, Set := (Arr.rep 4 0), Min := 1, Max := (-1), Group := 0, Kids := (some ([({ Kind := 2, Set := (aset (aset (Arr.rep 4 0) 0 0) 1 8589934592), Min := 0, Max := 0, Group := 0, Kids := none } : T27)] : List T27)) } : T27) _ g_4) rfl ?_
 refine rn 3 rfl ?_
 refine al hs (cs := c34 ({ Groups := 0, Slots := 0, Code := none } : T34)) rfl fun st b_5 hs => ?_
 refine sl hs 0 rfl rfl (LR.whole _ _) (c34_len _) rfl (c34_len _) (c34_one _) rfl fun st hs => ?_
 refine rn 1 rfl ?_
 refine W.o (e_loadN rfl (hs.g 1 rfl) (LR.whole _ _) (c27_len _)) ?_
 obtain ⟨r_6, g_7, hF⟩ := bind_some hF
 refine df (d9 ({ Kind := 5, Set := (Arr.rep 4 0), Min := 1, Max := (-1), Group := 0, Kids := (some ([({ Kind := 2, Set := (aset (aset (Arr.rep 4 0) 0 0) 1 8589934592), Min := 0, Max := 0, Group := 0, Kids := none } : T27)] : List T27)) } : T27) _ g_7) rfl ?_
 refine rn 5 rfl ?_
 refine W.o (lN (s := c34 r_3.1) rfl (hs.g 0 rfl) rfl rfl) ?_
 obtain ⟨r_8, g_9, hF⟩ := bind_some hF
 refine df (d23 r_3.1 ([98, 97, 97] : Str) 0 _ g_9) rfl ?_
 refine rn 4 rfl ?_
 refine al hs (cs := c56 ({ From := 0, To := 0 } : T56)) rfl fun st b_10 hs => ?_
 refine sr hs 0 rfl rfl rfl (cs' := c56 r_8.1) rfl rfl fun st hs => ?_
 refine rn 5 rfl ?_
 refine bi hF (fun c_11 hF => ?_) (fun c_11 hF => ?_)
 · refine wfx 33 rfl c_11 ?_
   refine rn 4 rfl ?_
   refine bi hF (fun c_12 hF => ?_) (fun c_12 hF => ?_)
   · refine wfx 37 rfl c_12 ?_
     refine rn 4 rfl ?_
     refine bi hF (fun c_13 hF => ?_) (fun c_13 hF => ?_)
     · refine wfx 41 rfl c_13 ?_
       refine W.on rfl rfl ?_
       refine W.o (e_faddr rfl (hs.g 1 rfl)) ?_
       refine W.on rfl rfl ?_
       refine W.o (l1 rfl (hs.g 1 rfl) rfl) ?_
       refine W.on rfl rfl ?_
       refine W.o (e_len (rd_V rfl)) ?_
       refine rn 3 rfl ?_
       refine bi hF (fun c_14 hF => ?_) (fun c_14 hF => ?_)
       · refine wfx 47 rfl c_14 ?_
         refine rn 4 rfl ?_
         refine bi hF (fun c_15 hF => ?_) (fun c_15 hF => ?_)
         · refine wfx 51 rfl c_15 ?_
           refine rn 3 rfl ?_
           refine bi hF (fun c_16 hF => ?_) (fun c_16 hF => ?_)
           · refine wfx 54 rfl c_16 ?_
             refine W.on rfl rfl ?_
             refine W.o (lN (s := c56 r_8.1) rfl (hs.g 0 rfl) rfl rfl) ?_
             refine W.on rfl rfl ?_
             refine W.o (bR (cs := c56 ({ From := 1, To := 3 } : T56)) rfl rfl) ?_
             refine W.on rfl rfl ?_
             refine W.o (e_eqA rfl rfl (c56_eq r_8.1 ({ From := 1, To := 3 } : T56))) ?_
             refine rn 2 rfl ?_
             cases hF
             exact rD (rlt rl0) rfl
           · refine wfx 54 rfl c_16 ?_
             refine rn 5 rfl ?_
             cases hF
             exact rD (rlt rl0) rfl
         · refine wfx 51 rfl c_15 ?_
           refine rn 8 rfl ?_
           cases hF
           exact rD (rlt rl0) rfl
       · refine wfx 47 rfl c_14 ?_
         refine rn 12 rfl ?_
         cases hF
         exact rD (rlt rl0) rfl
     · refine wfx 41 rfl c_13 ?_
       refine rn 18 rfl ?_
       cases hF
       exact rD (rlt rl0) rfl
   · refine wfx 37 rfl c_12 ?_
     refine rn 22 rfl ?_
     cases hF
     exact rD (rlt rl0) rfl
 · refine wfx 33 rfl c_11 ?_
   refine rn 26 rfl ?_
   cases hF
   exact rD (rlt rl0) rfl
/-! ### 3: paddock/paddocklaw10.NfaSizes -/
def O3_17o1 : List AOp := (q 43 (.pick 39 (.c (.bool true)) 42)).y 25 :: (q 44 (.pick 25 43 (.c (.bool false)))).n 22 :: q 45 (.pick 22 (.c (.bool true)) 44) :: []
def O3_17o0 : List AOp := q 19 (.mv 4) :: q 20 (.mv 6) :: q 21 (.binI .neq 19 20) :: q 22 (.mv 21) :: (q 23 (.mv 4)).n 22 :: (q 24 (.binI .eql 23 (ki 0))).n 22 :: (q 25 (.mv 24)).n 22 :: (q 26 (.faddr 2 5)).y 25 :: (q 27 (.load1 26)).y 25 :: (q 28 (.len 27)).y 25 :: (q 29 (.mv 3)).y 25 :: (q 30 (.binI .neq 28 29)).y 25 :: (q 31 (.mv 30)).y 25 :: (q 32 (.mv 3)).n 31 :: (q 33 (.binI .lss 32 (ki 1))).n 31 :: (q 34 (.pick 31 (.c (.bool true)) 33)).y 25 :: (q 35 (.mv 34)).y 25 :: (q 36 (.mv 3)).n 35 :: (q 37 (.binI .gtr 36 (ki 16384))).n 35 :: (q 38 (.pick 35 (.c (.bool true)) 37)).y 25 :: (q 39 (.mv 38)).y 25 :: (q 40 (.loadN 3 5)).n 39 :: (qc 41 11 [40]).n 39 :: (q 42 (.un .not 41)).n 39 :: O3_17o1
def C3_23 : ACode := .s (.ops [q 46 (.mv 4), q 47 (.binI .eql 46 (ki 0)), q 48 (.mv 47), (q 49 (.faddr 2 5)).n 48, (q 50 (.load1 49)).n 48, (q 51 (.len 50)).n 48, (q 52 (.binI .eql 51 (ki 0))).n 48, (q 53 (.mv 52)).n 48, (q 54 (.mv 3)).y 53, (q 55 (.binI .eql 54 (ki 0))).y 53, (q 56 (.pick 53 55 (.c (.bool false)))).n 48, q 57 (.pick 48 (.c (.bool true)) 56), q 58 (.mv 57), (q 59 (.loadN 9 1)).y 58, (qc 60 12 [59]).y 58, (q 61 (.binI .eql 60 (ki 0))).y 58, (q 62 (.mv 61)).y 58, (q 63 (.mv 4)).n 62, (q 64 (.loadN 9 1)).n 62, (qc 65 12 [64]).n 62, (q 66 (.binI .eql 63 65)).n 62, (q 67 (.pick 62 (.c (.bool true)) 66)).y 58, q 68 (.pick 58 67 (.c (.bool false))), q 2 (.mv 68)]) .ret
def C3_1 : ACode := .s (.ops [q 1 (.boxD 9 0), q 2 (.mv (.c (.bool false)))]) (.s (.s (.ops [qc 7 8 [], q 8 (.un .not 7)]) (.cond 8 (.s (.ops [q 2 (.mv (.c (.bool false)))]) .ret) .skip)) (.s (.ops [q 10 (.loadN 9 1), qc 11 9 [10], q 9 (.mv 11), q 12 (.extract 9 0), q 13 (.extract 9 1), q 3 (.mv 12), q 4 (.mv 13)]) (.s (.ops [q 15 (.loadN 9 1), qc 16 10 [15], q 14 (.mv 16), q 17 (.extract 14 0), q 18 (.extract 14 1), q 5 (.alloc [(.int .i64 0), (.int .i64 0), .nils]), q0 (.store 3 5 17), q 6 (.mv 18)]) (.s (.s (.ops O3_17o0) (.cond 45 (.s (.ops [q 2 (.mv (.c (.bool false)))]) .ret) .skip)) C3_23))))
def R3 : List RA := [(.tmp 2)]
theorem k3 : compF Try.prog (muL [1]) 3 = some ⟨69, C3_1, R3⟩ := by kernel_rfl
noncomputable abbrev X3 (r : Bool) : Cx := cD Try.prog noG 69 R3 (AV.bool r) [1]
inductive St3 where
 | p1 (n : T27) (k : Int) (why : Int) (p : T34)
noncomputable def G3 : St3 → Option Bool
 | .p1 n k why p =>
  (if (why == 0) = true then
   (F12 n >>= fun r_18 =>
    (if (r_18 == 0) = true then
     (some true)
    else
     (F12 n >>= fun r_21 =>
      (some (why == r_21)))))
  else
   (if (((ls p.Code).length : Int) == 0) = true then
    (if (k == 0) = true then
     (F12 n >>= fun r_25 =>
      (if (r_25 == 0) = true then
       (some true)
      else
       (F12 n >>= fun r_28 =>
        (some (why == r_28)))))
    else
     (some false))
   else
    (some false)))
def M3 (x : St3) (r : Bool) : Prop := match x with
 | .p1 n k why p => ∀ (tm : Fr) (st : Store) (io0 : Nat), Frm tm [(1, .dptr (c27 n)), (3, AV.int .i64 k), (4, AV.int .i64 why), (5, .ptr io0 0)] → SH st [pt io0 (.cells (c34 p))] → W (X3 r) [.code C3_23] tm st
theorem w3 : ∀ (x : St3) (r : Bool), G3 x = some r → M3 x r := by
 intro x r hF
 cases x with
 | p1 n k why p =>
  dsimp only [G3] at hF
  intro tm st io0 hf hs
  refine en hf ?_
  refine rn 3 rfl ?_
  refine bi hF (fun c_17 hF => ?_) (fun c_17 hF => ?_)
  · refine wfx 48 rfl c_17 ?_
    refine rn 10 rfl ?_
    refine W.on rfl rfl ?_
    refine W.o (e_loadND rfl (DP.refl _) (c27_len _)) ?_
    obtain ⟨r_18, g_19, hF⟩ := bind_some hF
    refine W.on rfl rfl ?_
    refine df (d12 n _ g_19) rfl ?_
    refine rn 2 rfl ?_
    refine bi hF (fun c_20 hF => ?_) (fun c_20 hF => ?_)
    · refine wfx 62 rfl c_20 ?_
      refine rn 7 rfl ?_
      cases hF
      exact rD (rlt rl0) rfl
    · refine wfx 62 rfl c_20 ?_
      refine rn 1 rfl ?_
      refine W.on rfl rfl ?_
      refine W.o (e_loadND rfl (DP.refl _) (c27_len _)) ?_
      obtain ⟨r_21, g_22, hF⟩ := bind_some hF
      refine W.on rfl rfl ?_
      refine df (d12 n _ g_22) rfl ?_
      refine rn 4 rfl ?_
      cases hF
      exact rD (rlt rl0) rfl
  · refine wfx 48 rfl c_17 ?_
    refine W.on rfl rfl ?_
    refine W.o (e_faddr rfl (hs.g 0 rfl)) ?_
    refine W.on rfl rfl ?_
    refine W.o (l1 rfl (hs.g 0 rfl) rfl) ?_
    refine W.on rfl rfl ?_
    refine W.o (e_len (rd_V rfl)) ?_
    refine rn 2 rfl ?_
    refine bi hF (fun c_23 hF => ?_) (fun c_23 hF => ?_)
    · refine wfx 53 rfl c_23 ?_
      refine rn 5 rfl ?_
      refine bi hF (fun c_24 hF => ?_) (fun c_24 hF => ?_)
      · refine wfx 58 rfl c_24 ?_
        refine W.on rfl rfl ?_
        refine W.o (e_loadND rfl (DP.refl _) (c27_len _)) ?_
        obtain ⟨r_25, g_26, hF⟩ := bind_some hF
        refine W.on rfl rfl ?_
        refine df (d12 n _ g_26) rfl ?_
        refine rn 2 rfl ?_
        refine bi hF (fun c_27 hF => ?_) (fun c_27 hF => ?_)
        · refine wfx 62 rfl c_27 ?_
          refine rn 7 rfl ?_
          cases hF
          exact rD (rlt rl0) rfl
        · refine wfx 62 rfl c_27 ?_
          refine rn 1 rfl ?_
          refine W.on rfl rfl ?_
          refine W.o (e_loadND rfl (DP.refl _) (c27_len _)) ?_
          obtain ⟨r_28, g_29, hF⟩ := bind_some hF
          refine W.on rfl rfl ?_
          refine df (d12 n _ g_29) rfl ?_
          refine rn 4 rfl ?_
          cases hF
          exact rD (rlt rl0) rfl
      · refine wfx 58 rfl c_24 ?_
        refine rn 11 rfl ?_
        cases hF
        exact rD (rlt rl0) rfl
    · refine wfx 53 rfl c_23 ?_
      refine rn 16 rfl ?_
      cases hF
      exact rD (rlt rl0) rfl
noncomputable def F3 (n : T27) : Option Bool :=
 (F8 >>= fun r_1 =>
  (if (!r_1) = true then
   (some false)
  else
   (F9 n >>= fun r_4 =>
    (F10 n >>= fun r_6 =>
     (if (r_4.2 != r_6.2) = true then
      (some false)
     else
      (if (r_4.2 == 0) = true then
       (if (((ls r_6.1.Code).length : Int) != r_4.1) = true then
        (some false)
       else
        (if (decide (r_4.1 < 1)) = true then
         (some false)
        else
         (if (decide (r_4.1 > 16384)) = true then
          (some false)
         else
          (F11 r_6.1 >>= fun r_14 =>
           (if (!r_14) = true then
            (some false)
           else
            (G3 (.p1 n r_4.1 r_4.2 r_6.1)))))))
      else
       (G3 (.p1 n r_4.1 r_4.2 r_6.1))))))))
theorem d3 (n : T27) (r : Bool) (hF : F3 n = some r) : DFun Try.prog noG 3 [v27 n] (AV.bool r) := by
 unfold F3 at hF
 refine bD k3 rfl ?_
 have hs : SH [] [] := SH.nil
 generalize ([] : Store) = st at hs ⊢
 refine rn 0 rfl ?_
 refine W.o (e_boxD (cs := c27 n) rfl (by rw [c27_len]; rfl) (c27_one _)) ?_
 obtain ⟨r_1, g_2, hF⟩ := bind_some hF
 refine rn 1 rfl ?_
 refine df (d8 _ g_2) rfl ?_
 refine rn 1 rfl ?_
 refine ci hF rfl (fun c_3 hF => ?_) (fun c_3 hF => ?_)
 · refine rn 1 rfl ?_
   cases hF
   exact rD (rlt rl0) rfl
 · refine rn 0 rfl ?_
   refine W.o (e_loadND rfl (DP.refl _) (c27_len _)) ?_
   obtain ⟨r_4, g_5, hF⟩ := bind_some hF
   refine df (d9 n _ g_5) rfl ?_
   refine rn 5 rfl ?_
   refine W.o (e_loadND rfl (DP.refl _) (c27_len _)) ?_
   obtain ⟨r_6, g_7, hF⟩ := bind_some hF
   refine df (d10 n _ g_7) rfl ?_
   refine rn 3 rfl ?_
   refine al hs (cs := c34 ({ Groups := 0, Slots := 0, Code := none } : T34)) rfl fun st b_8 hs => ?_
   refine sl hs 0 rfl rfl (LR.whole _ _) (c34_len _) rfl (c34_len _) (c34_one _) rfl fun st hs => ?_
   refine rn 5 rfl ?_
   refine bi hF (fun c_9 hF => ?_) (fun c_9 hF => ?_)
   · refine wfx 22 rfl c_9 ?_
     refine rn 23 rfl ?_
     refine ct rfl rfl ?_
     refine rn 1 rfl ?_
     cases hF
     exact rD (rlt rl0) rfl
   · refine wfx 22 rfl c_9 ?_
     refine rn 3 rfl ?_
     refine bi hF (fun c_10 hF => ?_) (fun c_10 hF => ?_)
     · refine wfx 25 rfl c_10 ?_
       refine W.on rfl rfl ?_
       refine W.o (e_faddr rfl (hs.g 0 rfl)) ?_
       refine W.on rfl rfl ?_
       refine W.o (l1 rfl (hs.g 0 rfl) rfl) ?_
       refine W.on rfl rfl ?_
       refine W.o (e_len (rd_V rfl)) ?_
       refine rn 3 rfl ?_
       refine bi hF (fun c_11 hF => ?_) (fun c_11 hF => ?_)
       · refine wfx 31 rfl c_11 ?_
         refine rn 14 rfl ?_
         refine ct rfl rfl ?_
         refine rn 1 rfl ?_
         cases hF
         exact rD (rlt rl0) rfl
       · refine wfx 31 rfl c_11 ?_
         refine rn 4 rfl ?_
         refine bi hF (fun c_12 hF => ?_) (fun c_12 hF => ?_)
         · refine wfx 35 rfl c_12 ?_
           refine rn 10 rfl ?_
           refine ct rfl rfl ?_
           refine rn 1 rfl ?_
           cases hF
           exact rD (rlt rl0) rfl
         · refine wfx 35 rfl c_12 ?_
           refine rn 4 rfl ?_
           refine bi hF (fun c_13 hF => ?_) (fun c_13 hF => ?_)
           · refine wfx 39 rfl c_13 ?_
             refine rn 6 rfl ?_
             refine ct rfl rfl ?_
             refine rn 1 rfl ?_
             cases hF
             exact rD (rlt rl0) rfl
           · refine wfx 39 rfl c_13 ?_
             refine W.on rfl rfl ?_
             refine W.o (lN (s := c34 r_6.1) rfl (hs.g 0 rfl) rfl rfl) ?_
             obtain ⟨r_14, g_15, hF⟩ := bind_some hF
             refine W.on rfl rfl ?_
             refine df (d11 r_6.1 _ g_15) rfl ?_
             refine rn 4 rfl ?_
             refine ci hF rfl (fun c_16 hF => ?_) (fun c_16 hF => ?_)
             · refine rn 1 rfl ?_
               cases hF
               exact rD (rlt rl0) rfl
             · refine rj 0 1 rfl ?_
               exact w3 (.p1 n r_4.1 r_4.2 r_6.1) _ hF _ _ b_8 ⟨rfl, rfl, rfl, rfl, trivial⟩ hs
     · refine wfx 25 rfl c_10 ?_
       refine rn 20 rfl ?_
       refine cf rfl rfl ?_
       refine rj 0 1 rfl ?_
       exact w3 (.p1 n r_4.1 r_4.2 r_6.1) _ hF _ _ b_8 ⟨rfl, rfl, rfl, rfl, trivial⟩ hs
/-! ### 17: paddock/nfa.Ends -/
def C17_1 : ACode := .s (.ops [q 3 (.boxD 3 0), q 6 (.mv (.c .nils)), q 7 (.mv (ki 0))]) (.s (.s (.ops [q 9 (.loadN 3 3), qc 10 32 [9], q 8 (.mv 10)]) (.s (.ops [q 11 (.mv 8), q 12 (.binI .neq 11 (ki 0))]) (.cond 12 (.s (.ops [q 13 (.mv 8), q 6 (.mv (.c .nils)), q 7 (.mv 13)]) .ret) .skip))) (.s (.s (.ops [q 14 (.mv 2), q 15 (.binI .lss 14 (ki 0)), q 16 (.mv 15), (q 17 (.mv 2)).n 16, (q 18 (.mv 1)).n 16, (q 19 (.lenS 18)).n 16, (q 20 (.binI .gtr 17 19)).n 16, q 21 (.pick 16 (.c (.bool true)) 20)]) (.cond 21 (.s (.ops [q 6 (.mv (.c .nils)), q 7 (.mv (ki 2))]) .ret) .skip)) (.s (.ops [q 22 (.loadN 3 3), q 23 (.mv 1), q 24 (.mv 2), qc 25 33 [22, 23, 24], q 6 (.mv 25), q 7 (.mv (ki 0))]) .ret)))
def R17 : List RA := [(.tmp 6), (.tmp 7)]
theorem k17 : compF Try.prog (muL [3]) 17 = some ⟨26, C17_1, R17⟩ := by kernel_rfl
noncomputable abbrev X17 (r : Sl Int × Int) : Cx := cD Try.prog noG 26 R17 (AV.tup [slV 1 (AV.int .i64) r.1, AV.int .i64 r.2]) [3]
noncomputable def F17 (p : T34) (s : Str) (from_ : Int) : Option (Sl Int × Int) :=
 (F32 p >>= fun r_1 =>
  (if (r_1 != 0) = true then
   (some (none, r_1))
  else
   (if (decide (from_ < 0)) = true then
    (some (none, 2))
   else
    (if (decide (from_ > ((s).length : Int))) = true then
     (some (none, 2))
    else
     (F33 p s from_ >>= fun r_6 =>
      (some (r_6, 0)))))))
theorem d17 (p : T34) (s : Str) (from_ : Int) (r : Sl Int × Int) (hF : F17 p s from_ = some r) : DFun Try.prog noG 17 [v34 p, AV.str s, AV.int .i64 from_] (AV.tup [slV 1 (AV.int .i64) r.1, AV.int .i64 r.2]) := by
 unfold F17 at hF
 refine bD k17 rfl ?_
 have hs : SH [] [] := SH.nil
 generalize ([] : Store) = st at hs ⊢
 refine rn 0 rfl ?_
 refine W.o (e_boxD (cs := c34 p) rfl rfl (c34_one _)) ?_
 refine rn 2 rfl ?_
 refine W.o (lND (s := c34 p) rfl rfl rfl) ?_
 obtain ⟨r_1, g_2, hF⟩ := bind_some hF
 refine df (d32 p _ g_2) rfl ?_
 refine rn 3 rfl ?_
 refine ci hF rfl (fun c_3 hF => ?_) (fun c_3 hF => ?_)
 · refine rn 3 rfl ?_
   cases hF
   exact rD (rlt (rlt rl0)) rfl
 · refine rn 3 rfl ?_
   refine bi hF (fun c_4 hF => ?_) (fun c_4 hF => ?_)
   · refine wfx 16 rfl c_4 ?_
     refine rn 5 rfl ?_
     refine ct rfl rfl ?_
     refine rn 2 rfl ?_
     cases hF
     exact rD (rlt (rlt rl0)) rfl
   · refine wfx 16 rfl c_4 ?_
     refine rn 5 rfl ?_
     refine ci hF rfl (fun c_5 hF => ?_) (fun c_5 hF => ?_)
     · refine rn 2 rfl ?_
       cases hF
       exact rD (rlt (rlt rl0)) rfl
     · refine rn 0 rfl ?_
       refine W.o (lND (s := c34 p) rfl rfl rfl) ?_
       obtain ⟨r_6, g_7, hF⟩ := bind_some hF
       refine rn 2 rfl ?_
       refine df (d33 p s from_ _ g_7) rfl ?_
       refine rn 2 rfl ?_
       cases hF
       exact rD (rlt (rlt rl0)) rfl
/-! ### 21: paddock/nfa.Whole -/
def C21_34 : ACode := .s (.ops [q 41 (.iaddrL 1 37 39), q 42 (.load1 41), q 10 (.mv 42)]) (.s (.ops [q 43 (.mv 10), q 44 (.faddr 1 5), q 45 (.load1 44), q 46 (.binI .eql 43 45)]) (.cond 46 (.s (.ops [q 6 (.mv (.c (.bool true))), q 7 (.mv (ki 0))]) .ret) .skip))
def C21_26 : ACode := .s (.ops [q 40 (.binI .lss 39 38)]) (.s (.cond 40 .skip (.exit 0)) (.s (.block 1 C21_34) (.ops [q 47 (.binI .add 39 (ki 1)), q 39 (.mv 47)])))
def C21_44 : ACode := .s (.ops [q 6 (.mv (.c (.bool false))), q 7 (.mv (ki 0))]) .ret
def C21_1 : ACode := .s (.ops [q 3 (.boxD 3 0), q 5 (.boxD 2 2), q 6 (.mv (.c (.bool false))), q 7 (.mv (ki 0))]) (.s (.s (.ops [q 11 (.loadN 3 3), qc 12 32 [11], q 8 (.mv 12)]) (.s (.ops [q 13 (.mv 8), q 14 (.binI .neq 13 (ki 0))]) (.cond 14 (.s (.ops [q 15 (.mv 8), q 6 (.mv (.c (.bool false))), q 7 (.mv 15)]) .ret) .skip))) (.s (.s (.ops [q 16 (.faddr 0 5), q 17 (.load1 16), q 18 (.binI .lss 17 (ki 0)), q 19 (.mv 18), (q 20 (.faddr 1 5)).n 19, (q 21 (.load1 20)).n 19, (q 22 (.faddr 0 5)).n 19, (q 23 (.load1 22)).n 19, (q 24 (.binI .lss 21 23)).n 19, q 25 (.pick 19 (.c (.bool true)) 24), q 26 (.mv 25), (q 27 (.faddr 1 5)).n 26, (q 28 (.load1 27)).n 26, (q 29 (.mv 1)).n 26, (q 30 (.lenS 29)).n 26, (q 31 (.binI .gtr 28 30)).n 26, q 32 (.pick 26 (.c (.bool true)) 31)]) (.cond 32 (.s (.ops [q 6 (.mv (.c (.bool false))), q 7 (.mv (ki 2))]) .ret) .skip)) (.s (.s (.ops [q 33 (.loadN 3 3), q 34 (.mv 1), q 35 (.faddr 0 5), q 36 (.load1 35), qc 37 33 [33, 34, 36], q 38 (.len 37), q 39 (.mv (ki 0))]) (.block 0 (.loop C21_26))) C21_44)))
def R21 : List RA := [(.tmp 6), (.tmp 7)]
theorem k21 : compF Try.prog (muL [3, 5]) 21 = some ⟨48, C21_1, R21⟩ := by kernel_rfl
noncomputable abbrev X21 (r : Bool × Int) : Cx := cD Try.prog noG 48 R21 (AV.tup [AV.bool r.1, AV.int .i64 r.2]) [3, 5]
inductive St21 where
 | p1 (at_ : T56) (t37_ : Sl Int) (t38_ : Int) (t39_ : Int)
noncomputable def G21 : St21 → Option (Bool × Int)
 | .p1 at_ t37_ t38_ t39_ =>
  (if (decide (t39_ < t38_)) = true then
   (ix (ls t37_) t39_ >>= fun v_10 =>
    (if (v_10 == at_.To) = true then
     (some (true, 0))
    else
     (G21 (.p1 at_ t37_ t38_ (IntKind.wrap .i64 (t39_ + 1))))))
  else
   (some (false, 0)))
 partial_fixpoint
def M21 (x : St21) (r : Bool × Int) : Prop := match x with
 | .p1 at_ t37_ t38_ t39_ => ∀ (tm : Fr) (st : Store), Frm tm [(5, .dptr (c56 at_)), (37, slV 1 (AV.int .i64) t37_), (38, AV.int .i64 t38_), (39, AV.int .i64 t39_)] → SH st [] → W (X21 r) [.lp C21_26, .blk 0, .code C21_44] tm st
theorem w21 : ∀ (x : St21) (r : Bool × Int), G21 x = some r → M21 x r := by
 refine G21.partial_correctness (M21) ?_
 intro g ih x r hF
 cases x with
 | p1 at_ t37_ t38_ t39_ =>
  dsimp only at hF
  intro tm st hf hs
  refine en hf ?_
  refine lp ?_
  refine rn 1 rfl ?_
  refine ci hF rfl (fun c_9 hF => ?_) (fun c_9 hF => ?_)
  · obtain ⟨v_10, g_11, hF⟩ := bind_some hF
    refine rn 0 rfl ?_
    refine W.o (e_iaddrL (rd_V rfl) rfl g_11) ?_
    refine W.o (l1D rfl rfl) ?_
    refine rn 2 rfl ?_
    refine W.o (e_faddrD rfl) ?_
    refine W.o (l1D rfl rfl) ?_
    refine rn 1 rfl ?_
    refine ci hF rfl (fun c_12 hF => ?_) (fun c_12 hF => ?_)
    · refine rn 2 rfl ?_
      cases hF
      exact rD (rlt (rlt rl0)) rfl
    · refine rn 2 rfl ?_
      exact ih (.p1 at_ t37_ t38_ (IntKind.wrap .i64 (t39_ + 1))) _ hF _ _ ⟨rfl, rfl, rfl, rfl, trivial⟩ hs
  · refine rn 2 rfl ?_
    cases hF
    exact rD (rlt (rlt rl0)) rfl
noncomputable def F21 (p : T34) (s : Str) (at_ : T56) : Option (Bool × Int) :=
 (F32 p >>= fun r_1 =>
  (if (r_1 != 0) = true then
   (some (false, r_1))
  else
   (if (decide (at_.From < 0)) = true then
    (some (false, 2))
   else
    (if (decide (at_.To < at_.From)) = true then
     (some (false, 2))
    else
     (if (decide (at_.To > ((s).length : Int))) = true then
      (some (false, 2))
     else
      (F33 p s at_.From >>= fun r_7 =>
       (G21 (.p1 at_ r_7 ((ls r_7).length : Int) 0))))))))
theorem d21 (p : T34) (s : Str) (at_ : T56) (r : Bool × Int) (hF : F21 p s at_ = some r) : DFun Try.prog noG 21 [v34 p, AV.str s, v56 at_] (AV.tup [AV.bool r.1, AV.int .i64 r.2]) := by
 unfold F21 at hF
 refine bD k21 rfl ?_
 have hs : SH [] [] := SH.nil
 generalize ([] : Store) = st at hs ⊢
 refine rn 0 rfl ?_
 refine W.o (e_boxD (cs := c34 p) rfl rfl (c34_one _)) ?_
 refine W.o (e_boxD (cs := c56 at_) rfl rfl rfl) ?_
 refine rn 2 rfl ?_
 refine W.o (lND (s := c34 p) rfl rfl rfl) ?_
 obtain ⟨r_1, g_2, hF⟩ := bind_some hF
 refine df (d32 p _ g_2) rfl ?_
 refine rn 3 rfl ?_
 refine ci hF rfl (fun c_3 hF => ?_) (fun c_3 hF => ?_)
 · refine rn 3 rfl ?_
   cases hF
   exact rD (rlt (rlt rl0)) rfl
 · refine rn 0 rfl ?_
   refine W.o (e_faddrD rfl) ?_
   refine W.o (l1D rfl rfl) ?_
   refine rn 2 rfl ?_
   refine bi hF (fun c_4 hF => ?_) (fun c_4 hF => ?_)
   · refine wfx 19 rfl c_4 ?_
     refine rn 13 rfl ?_
     refine ct rfl rfl ?_
     refine rn 2 rfl ?_
     cases hF
     exact rD (rlt (rlt rl0)) rfl
   · refine wfx 19 rfl c_4 ?_
     refine W.on rfl rfl ?_
     refine W.o (e_faddrD rfl) ?_
     refine W.on rfl rfl ?_
     refine W.o (l1D rfl rfl) ?_
     refine W.on rfl rfl ?_
     refine W.o (e_faddrD rfl) ?_
     refine W.on rfl rfl ?_
     refine W.o (l1D rfl rfl) ?_
     refine rn 3 rfl ?_
     refine bi hF (fun c_5 hF => ?_) (fun c_5 hF => ?_)
     · refine wfx 26 rfl c_5 ?_
       refine rn 6 rfl ?_
       refine ct rfl rfl ?_
       refine rn 2 rfl ?_
       cases hF
       exact rD (rlt (rlt rl0)) rfl
     · refine wfx 26 rfl c_5 ?_
       refine W.on rfl rfl ?_
       refine W.o (e_faddrD rfl) ?_
       refine W.on rfl rfl ?_
       refine W.o (l1D rfl rfl) ?_
       refine rn 4 rfl ?_
       refine ci hF rfl (fun c_6 hF => ?_) (fun c_6 hF => ?_)
       · refine rn 2 rfl ?_
         cases hF
         exact rD (rlt (rlt rl0)) rfl
       · refine rn 0 rfl ?_
         refine W.o (lND (s := c34 p) rfl rfl rfl) ?_
         refine rn 1 rfl ?_
         refine W.o (e_faddrD rfl) ?_
         refine W.o (l1D rfl rfl) ?_
         obtain ⟨r_7, g_8, hF⟩ := bind_some hF
         refine df (d33 p s at_.From _ g_8) rfl ?_
         refine W.o (e_len (rd_V rfl)) ?_
         refine rn 1 rfl ?_
         exact w21 (.p1 at_ r_7 ((ls r_7).length : Int) 0) _ hF _ _ ⟨rfl, rfl, rfl, rfl, trivial⟩ hs
end Go.Proofs.Ytjbafmnocopofaa
end
section
/-
  Functions of the program's as plain functions.
-/

set_option linter.unusedVariables false
set_option maxRecDepth 4000
set_option maxHeartbeats 4000000
namespace Go.Proofs.Ytjbafmnocopofaa
open Go AW
attribute [local irreducible] W WD SH XS XLoop DFun XCall XYield
/-! ### 13: paddock/paddockref09.Groups -/
def C13_24 : ACode := .s (.ops [q 14 (.iaddrL 9 10 12), q 15 (.loadN 9 14), q 5 (.alloc [(.int .u8 0), (.int .u64 0), (.int .u64 0), (.int .u64 0), (.int .u64 0), (.int .i64 0), (.int .i64 0), (.int .i64 0), .nils]), q0 (.store 9 5 15)]) (.ops [q 16 (.mv 3), q 17 (.loadN 9 5), qc 18 13 [17], q 19 (.binI .add 16 18), q 3 (.mv 19)])
def C13_16 : ACode := .s (.ops [q 13 (.binI .lss 12 11)]) (.s (.cond 13 .skip (.exit 0)) (.s (.block 1 C13_24) (.ops [q 20 (.binI .add 12 (ki 1)), q 12 (.mv 20)])))
def C13_28 : ACode := .s (.ops [q 21 (.mv 3), q 2 (.mv 21)]) .ret
def C13_11 : ACode := .s (.s (.ops [q 9 (.faddr 8 1), q 10 (.load1 9), q 11 (.len 10), q 12 (.mv (ki 0))]) (.block 0 (.loop C13_16))) C13_28
def C13_1 : ACode := .s (.ops [q 1 (.boxD 9 0), q 2 (.mv (ki 0))]) (.s (.ops [q 3 (.mv (ki 0))]) (.s (.s (.ops [q 6 (.faddr 0 1), q 7 (.load1 6), q 8 (.binI .eql 7 (ku 6))]) (.cond 8 (.ops [q 3 (.mv (ki 1))]) .skip)) C13_11))
def R13 : List RA := [(.tmp 2)]
theorem k13 : compF Try.prog (muL [1]) 13 = some ⟨22, C13_1, R13⟩ := by kernel_rfl
noncomputable abbrev X13 (r : Int) : Cx := cD Try.prog noG 22 R13 (AV.int .i64 r) [1]
inductive St13 where
 | e (n : T27)
 | p1 (n : T27) (sum : Int)
 | p2 (sum : Int) (t10_ : Sl T27) (t11_ : Int) (t12_ : Int)
noncomputable def G13 : St13 → Option Int
 | .e n =>
  (if (n.Kind == 6) = true then
   (G13 (.p1 n 1))
  else
   (G13 (.p1 n 0)))
 | .p1 n sum =>
  (G13 (.p2 sum n.Kids ((ls n.Kids).length : Int) 0))
 | .p2 sum t10_ t11_ t12_ =>
  (if (decide (t12_ < t11_)) = true then
   (ix (ls t10_) t12_ >>= fun v_3 =>
    (G13 (.e v_3) >>= fun r_6 =>
     (G13 (.p2 (IntKind.wrap .i64 (sum + r_6)) t10_ t11_ (IntKind.wrap .i64 (t12_ + 1))))))
  else
   (some sum))
 partial_fixpoint
def M13 (x : St13) (r : Int) : Prop := match x with
 | .e n => DFun Try.prog noG 13 [v27 n] (AV.int .i64 r)
 | .p1 n sum => ∀ (tm : Fr) (st : Store), Frm tm [(1, .dptr (c27 n)), (3, AV.int .i64 sum)] → SH st [] → W (X13 r) [.code C13_11] tm st
 | .p2 sum t10_ t11_ t12_ => ∀ (tm : Fr) (st : Store), Frm tm [(3, AV.int .i64 sum), (10, slV 9 v27 t10_), (11, AV.int .i64 t11_), (12, AV.int .i64 t12_)] → SH st [] → W (X13 r) [.lp C13_16, .blk 0, .code C13_28] tm st
theorem w13 : ∀ (x : St13) (r : Int), G13 x = some r → M13 x r := by
 refine G13.partial_correctness (M13) ?_
 intro g ih x r hF
 cases x with
 | e n =>
  dsimp only at hF
  refine bD k13 rfl ?_
  have hs : SH [] [] := SH.nil
  generalize ([] : Store) = st at hs ⊢
  refine rn 0 rfl ?_
  refine W.o (e_boxD (cs := c27 n) rfl (by rw [c27_len]; rfl) (c27_one _)) ?_
  refine rn 2 rfl ?_
  refine W.o (e_faddrD rfl) ?_
  refine W.o (e_load1D rfl (DP.fld (DP.refl _) (lrg27_Kind n))) ?_
  refine rn 1 rfl ?_
  refine ci hF rfl (fun c_1 hF => ?_) (fun c_1 hF => ?_)
  · refine rj 1 1 rfl ?_
    exact ih (.p1 n 1) _ hF _ _ ⟨rfl, rfl, trivial⟩ hs
  · refine rj 0 1 rfl ?_
    exact ih (.p1 n 0) _ hF _ _ ⟨rfl, rfl, trivial⟩ hs
 | p1 n sum =>
  dsimp only at hF
  intro tm st hf hs
  refine en hf ?_
  refine rn 0 rfl ?_
  refine W.o (e_faddrD rfl) ?_
  refine W.o (e_load1D rfl (DP.fld (DP.refl _) (lrg27_Kids n))) ?_
  refine W.o (e_len (rd_V rfl)) ?_
  refine rn 1 rfl ?_
  exact ih (.p2 sum n.Kids ((ls n.Kids).length : Int) 0) _ hF _ _ ⟨rfl, rfl, rfl, rfl, trivial⟩ hs
 | p2 sum t10_ t11_ t12_ =>
  dsimp only at hF
  intro tm st hf hs
  refine en hf ?_
  refine lp ?_
  refine rn 1 rfl ?_
  refine ci hF rfl (fun c_2 hF => ?_) (fun c_2 hF => ?_)
  · obtain ⟨v_3, g_4, hF⟩ := bind_some hF
    refine rn 0 rfl ?_
    refine W.o (e_iaddrL (rd_V rfl) rfl g_4) ?_
    refine W.o (e_loadND rfl (DP.refl _) (c27_len _)) ?_
    refine al hs (cs := c27 ({ Kind := 0, Set := (Arr.rep 4 0), Min := 0, Max := 0, Group := 0, Kids := none } : T27)) rfl fun st b_5 hs => ?_
    refine sl hs 0 rfl rfl (LR.whole _ _) (c27_len _) rfl (c27_len _) (c27_one _) rfl fun st hs => ?_
    refine rn 1 rfl ?_
    refine W.o (e_loadN rfl (hs.g 0 rfl) (LR.whole _ _) (c27_len _)) ?_
    obtain ⟨r_6, g_7, hF⟩ := bind_some hF
    refine df (ih (.e v_3) _ g_7) rfl ?_
    refine rn 4 rfl ?_
    exact ih (.p2 (IntKind.wrap .i64 (sum + r_6)) t10_ t11_ (IntKind.wrap .i64 (t12_ + 1))) _ hF _ _ ⟨rfl, rfl, rfl, rfl, trivial⟩ (hs.p 1 [] rfl)
  · refine rn 2 rfl ?_
    cases hF
    exact rD (rlt rl0) rfl
noncomputable def F13 (n : T27) : Option Int := G13 (.e n)
theorem d13 (n : T27) (r : Int) (hF : F13 n = some r) : DFun Try.prog noG 13 [v27 n] (AV.int .i64 r) := by
 exact w13 (.e n) r hF
/-! ### 14: paddock/paddocklaw10.run -/
def C14_1 : ACode := .s (.ops [q 3 (.boxD 9 0), q 6 (.mv (.c .nils)), q 7 (.mv (.c (.bool false)))]) (.s (.ops [q 12 (.loadN 9 3), qc 13 10 [12], q 11 (.mv 13), q 14 (.extract 11 0), q 15 (.extract 11 1), q 8 (.alloc [(.int .i64 0), (.int .i64 0), .nils]), q0 (.store 3 8 14), q 9 (.mv 15)]) (.s (.s (.ops [q 16 (.mv 9), q 17 (.binI .neq 16 (ki 0))]) (.cond 17 (.s (.ops [q 6 (.mv (.c .nils)), q 7 (.mv (.c (.bool false)))]) .ret) .skip)) (.s (.ops [q 19 (.loadN 3 8), q 20 (.mv 1), q 21 (.mv 2), qc 22 17 [19, 20, 21], q 18 (.mv 22), q 23 (.extract 18 0), q 24 (.extract 18 1), q 10 (.mv 23), q 9 (.mv 24)]) (.s (.ops [q 25 (.mv 10), q 26 (.mv 9), q 27 (.binI .eql 26 (ki 0)), q 6 (.mv 25), q 7 (.mv 27)]) .ret))))
def R14 : List RA := [(.tmp 6), (.tmp 7)]
theorem k14 : compF Try.prog (muL [3]) 14 = some ⟨28, C14_1, R14⟩ := by kernel_rfl
noncomputable abbrev X14 (r : Sl Int × Bool) : Cx := cD Try.prog noG 28 R14 (AV.tup [slV 1 (AV.int .i64) r.1, AV.bool r.2]) [3]
noncomputable def F14 (n : T27) (s : Str) (from_ : Int) : Option (Sl Int × Bool) :=
 (F10 n >>= fun r_1 =>
  (if (r_1.2 != 0) = true then
   (some (none, false))
  else
   (F17 r_1.1 s from_ >>= fun r_5 =>
    (some (r_5.1, (r_5.2 == 0))))))
theorem d14 (n : T27) (s : Str) (from_ : Int) (r : Sl Int × Bool) (hF : F14 n s from_ = some r) : DFun Try.prog noG 14 [v27 n, AV.str s, AV.int .i64 from_] (AV.tup [slV 1 (AV.int .i64) r.1, AV.bool r.2]) := by
 unfold F14 at hF
 refine bD k14 rfl ?_
 have hs : SH [] [] := SH.nil
 generalize ([] : Store) = st at hs ⊢
 refine rn 0 rfl ?_
 refine W.o (e_boxD (cs := c27 n) rfl (by rw [c27_len]; rfl) (c27_one _)) ?_
 refine rn 2 rfl ?_
 refine W.o (e_loadND rfl (DP.refl _) (c27_len _)) ?_
 obtain ⟨r_1, g_2, hF⟩ := bind_some hF
 refine df (d10 n _ g_2) rfl ?_
 refine rn 3 rfl ?_
 refine al hs (cs := c34 ({ Groups := 0, Slots := 0, Code := none } : T34)) rfl fun st b_3 hs => ?_
 refine sl hs 0 rfl rfl (LR.whole _ _) (c34_len _) rfl (c34_len _) (c34_one _) rfl fun st hs => ?_
 refine rn 3 rfl ?_
 refine ci hF rfl (fun c_4 hF => ?_) (fun c_4 hF => ?_)
 · refine rn 2 rfl ?_
   cases hF
   exact rD (rlt (rlt rl0)) rfl
 · refine rn 0 rfl ?_
   refine W.o (lN (s := c34 r_1.1) rfl (hs.g 0 rfl) rfl rfl) ?_
   obtain ⟨r_5, g_6, hF⟩ := bind_some hF
   refine rn 2 rfl ?_
   refine df (d17 r_1.1 s from_ _ g_6) rfl ?_
   refine rn 10 rfl ?_
   cases hF
   exact rD (rlt (rlt rl0)) rfl
/-! ### 15: paddock/paddockref10.Ints -/
def C15_27 : ACode := .s (.ops [q 4 (.mv (.c (.bool false)))]) .ret
def C15_16 : ACode := .s (.s (.ops [q 11 (.mv 5), q 12 (.mv 0), q 13 (.len 12), q 14 (.binI .lss 11 13)]) (.cond 14 .skip (.exit 0))) (.s (.block 1 (.s (.draw [] 0 0 [q 17 (.mv 0), q 18 (.mv 5), q 19 (.iaddrL 1 17 18), q 20 (.load1 19), q 21 (.mv 1), q 22 (.mv 5), q 23 (.iaddrL 1 21 22), q 24 (.load1 23), q 25 (.binI .neq 20 24)] []) (.cond 25 C15_27 .skip))) (.ops [q 15 (.mv 5), q 16 (.binI .add 15 (ki 1)), q 5 (.mv 16)]))
def C15_32 : ACode := .s (.ops [q 4 (.mv (.c (.bool true)))]) .ret
def C15_1 : ACode := .s (.ops [q 4 (.mv (.c (.bool false)))]) (.s (.s (.ops [q 6 (.mv 0), q 7 (.len 6), q 8 (.mv 1), q 9 (.len 8), q 10 (.binI .neq 7 9)]) (.cond 10 (.s (.ops [q 4 (.mv (.c (.bool false)))]) .ret) .skip)) (.s (.s (.ops [q 5 (.mv (ki 0))]) (.block 0 (.loop C15_16))) C15_32))
def R15 : List RA := [(.tmp 4)]
theorem k15 : compF Try.prog (muL []) 15 = some ⟨26, C15_1, R15⟩ := by kernel_rfl
noncomputable abbrev X15 (r : Bool) : Cx := cD Try.prog noG 26 R15 (AV.bool r)
inductive St15 where
 | p1 (a : Sl Int) (b : Sl Int) (i : Int)
noncomputable def G15 : St15 → Option Bool
 | .p1 a b i =>
  (if (decide (i < ((ls a).length : Int))) = true then
   (ix (ls a) i >>= fun v_3 =>
    (ix (ls b) i >>= fun v_5 =>
     (if (v_3 != v_5) = true then
      (some false)
     else
      (G15 (.p1 a b (IntKind.wrap .i64 (i + 1)))))))
  else
   (some true))
 partial_fixpoint
def M15 (x : St15) (r : Bool) : Prop := match x with
 | .p1 a b i => ∀ (tm : Fr) (st : Store), Frm tm [(0, slV 1 (AV.int .i64) a), (1, slV 1 (AV.int .i64) b), (5, AV.int .i64 i)] → SH st [] → W (X15 r) [.lp C15_16, .blk 0, .code C15_32] tm st
theorem w15 : ∀ (x : St15) (r : Bool), G15 x = some r → M15 x r := by
 refine G15.partial_correctness (M15) ?_
 intro g ih x r hF
 cases x with
 | p1 a b i =>
  dsimp only at hF
  intro tm st hf hs
  refine en hf ?_
  refine lp ?_
  refine rn 2 rfl ?_
  refine W.o (e_len (rd_V rfl)) ?_
  refine rn 1 rfl ?_
  refine ci hF rfl (fun c_2 hF => ?_) (fun c_2 hF => ?_)
  · refine rn 0 rfl ?_
    have h0 := hs
    refine dr0 ?_
    obtain ⟨v_3, g_4, hF⟩ := bind_some hF
    refine dn 2 rfl ?_
    refine de rfl (e_iaddrL (rd_V rfl) rfl g_4) ?_
    refine de rfl (l1D rfl rfl) ?_
    obtain ⟨v_5, g_6, hF⟩ := bind_some hF
    refine dn 2 rfl ?_
    refine de rfl (e_iaddrL (rd_V rfl) rfl g_6) ?_
    refine de rfl (l1D rfl rfl) ?_
    refine dn 1 rfl ?_
    refine dz ?_
    refine rn 0 rfl ?_
    refine ci hF rfl (fun c_7 hF => ?_) (fun c_7 hF => ?_)
    · refine rn 1 rfl ?_
      cases hF
      exact rD (rlt rl0) rfl
    · refine rn 3 rfl ?_
      exact ih (.p1 a b (IntKind.wrap .i64 (i + 1))) _ hF _ _ ⟨rfl, rfl, rfl, trivial⟩ hs
  · refine rn 1 rfl ?_
    cases hF
    exact rD (rlt rl0) rfl
noncomputable def F15 (a : Sl Int) (b : Sl Int) : Option Bool :=
 (if (((ls a).length : Int) != ((ls b).length : Int)) = true then
  (some false)
 else
  (G15 (.p1 a b 0)))
theorem d15 (a : Sl Int) (b : Sl Int) (r : Bool) (hF : F15 a b = some r) : DFun Try.prog noG 15 [slV 1 (AV.int .i64) a, slV 1 (AV.int .i64) b] (AV.bool r) := by
 unfold F15 at hF
 refine bD k15 rfl ?_
 have hs : SH [] [] := SH.nil
 generalize ([] : Store) = st at hs ⊢
 refine rn 2 rfl ?_
 refine W.o (e_len (rd_V rfl)) ?_
 refine rn 1 rfl ?_
 refine W.o (e_len (rd_V rfl)) ?_
 refine rn 1 rfl ?_
 refine ci hF rfl (fun c_1 hF => ?_) (fun c_1 hF => ?_)
 · refine rn 1 rfl ?_
   cases hF
   exact rD (rlt rl0) rfl
 · refine rn 1 rfl ?_
   exact w15 (.p1 a b 0) _ hF _ _ ⟨rfl, rfl, rfl, trivial⟩ hs
end Go.Proofs.Ytjbafmnocopofaa
end
section
/-
  Functions of the program's as plain functions.
-/

set_option linter.unusedVariables false
set_option maxRecDepth 4000
set_option maxHeartbeats 4000000
namespace Go.Proofs.Ytjbafmnocopofaa
open Go AW
attribute [local irreducible] W WD SH XS XLoop DFun XCall XYield
/-! ### 4: paddock/paddocklaw10.NfaParts -/
def C4_68 : ACode := .s (.s (.ops [q 117 (.mv 22), q 118 (.mv 20), q 119 (.len 118), q 120 (.binI .lss 117 119)]) (.cond 120 .skip (.exit 2))) (.s (.block 3 (.ops [q 123 (.mv 17), q 124 (.mv 20), q 125 (.mv 22), q 126 (.iaddrL 1 124 125), q 127 (.load1 126), q 128 (.iaddrL 1 123 127), q0 (.store 1 128 (.c (.bool true)))])) (.ops [q 121 (.mv 22), q 122 (.binI .add 121 (ki 1)), q 22 (.mv 122)]))
def C4_78 : ACode := .ops [q 97 (.mv 19), q 98 (.binI .add 97 (ki 1)), q 19 (.mv 98)]
def C4_44 : ACode := .s (.s (.ops [q 93 (.mv 19), q 94 (.mv 9), q 95 (.len 94), q 96 (.binI .lss 93 95)]) (.cond 96 .skip (.exit 0))) (.s (.block 1 (.s (.ops [q 99 (.mv 18), q 100 (.mv 9), q 101 (.mv 19), q 102 (.iaddrL 1 100 101), q 103 (.load1 102), q 104 (.iaddrL 1 99 103), q0 (.store 1 104 (.c (.bool true)))]) (.s (.draw [] 0 0 [q 106 (.loadN 9 5), q 107 (.mv 2), q 108 (.mv 9), q 109 (.mv 19), q 110 (.iaddrL 1 108 109), q 111 (.load1 110), qc 112 14 [106, 107, 111], q 105 (.mv 112), q 113 (.extract 105 0), q 114 (.extract 105 1), q 20 (.mv 113), q 21 (.mv 114)] []) (.s (.s (.ops [q 115 (.mv 21), q 116 (.un .not 115)]) (.cond 116 (.s (.ops [q 8 (.mv (.c (.bool false)))]) .ret) .skip)) (.s (.ops [q 22 (.mv (ki 0))]) (.block 2 (.loop C4_68))))))) C4_78)
def C4_40 : ACode := .s (.ops [q 19 (.mv (ki 0))]) (.block 0 (.loop C4_44))
def C4_84 : ACode := .s (.s (.ops [q 129 (.mv 23), q 130 (.mv 11), q 131 (.len 130), q 132 (.binI .lss 129 131)]) (.cond 132 .skip (.exit 4))) (.s (.block 5 (.ops [q 135 (.mv 18), q 136 (.mv 11), q 137 (.mv 23), q 138 (.iaddrL 1 136 137), q 139 (.load1 138), q 140 (.iaddrL 1 135 139), q0 (.store 1 140 (.c (.bool true)))])) (.ops [q 133 (.mv 23), q 134 (.binI .add 133 (ki 1)), q 23 (.mv 134)]))
def C4_114 : ACode := .cond 150 (.ops [q 151 (.mv 24), q 152 (.mv 26), q 153 (.bslice 1 1 false [(.int .i64 0)] [(0, (1, 152))] false), q 154 (.app 1 8 151 153), q 24 (.mv 154)]) .skip
def C4_119 : ACode := .cond 158 (.ops [q 159 (.mv 25), q 160 (.mv 26), q 161 (.bslice 1 1 false [(.int .i64 0)] [(0, (1, 160))] false), q 162 (.app 1 8 159 161), q 25 (.mv 162)]) .skip
def C4_117 : ACode := .s (.ops [q 155 (.mv 18), q 156 (.mv 26), q 157 (.iaddrL 1 155 156), q 158 (.load1 157)]) C4_119
def C4_122 : ACode := .ops [q 145 (.mv 26), q 146 (.binI .add 145 (ki 1)), q 26 (.mv 146)]
def C4_103 : ACode := .s (.s (.ops [q 141 (.mv 26), q 142 (.mv 2), q 143 (.lenS 142), q 144 (.binI .leq 141 143)]) (.cond 144 .skip (.exit 6))) (.s (.block 7 (.s (.s (.ops [q 147 (.mv 17), q 148 (.mv 26), q 149 (.iaddrL 1 147 148), q 150 (.load1 149)]) C4_114) C4_117)) C4_122)
def C4_123 : ACode := .s (.ops [q 163 (.mv 13), q 164 (.mv 24), qc 165 15 [163, 164], q 166 (.mv 165), (q 167 (.mv 15)).y 166, (q 168 (.mv 25)).y 166, (qc 169 15 [167, 168]).y 166, q 170 (.pick 166 169 (.c (.bool false))), q 8 (.mv 170)]) .ret
def C4_94 : ACode := .s (.ops [q 24 (.mv (.c .nils))]) (.s (.ops [q 25 (.mv (.c .nils))]) (.s (.s (.ops [q 26 (.mv (ki 0))]) (.block 6 (.loop C4_103))) C4_123))
def C4_79 : ACode := .s (.s (.ops [q 23 (.mv (ki 0))]) (.block 4 (.loop C4_84))) C4_94
def C4_1 : ACode := .s (.ops [q 4 (.boxD 9 0), q 5 (.boxD 9 1), q 8 (.mv (.c (.bool false)))]) (.s (.s (.ops [qc 27 8 [], q 28 (.un .not 27)]) (.cond 28 (.s (.ops [q 8 (.mv (.c (.bool false)))]) .ret) .skip)) (.s (.s (.ops [q 29 (.loadN 9 4), qc 30 13 [29], q 31 (.binI .gtr 30 (ki 0)), q 32 (.mv 31), (q 33 (.loadN 9 5)).n 32, (qc 34 13 [33]).n 32, (q 35 (.binI .gtr 34 (ki 0))).n 32, q 36 (.pick 32 (.c (.bool true)) 35)]) (.cond 36 (.s (.ops [q 8 (.mv (.c (.bool true)))]) .ret) .skip)) (.s (.ops [q 38 (.loadN 9 4), q 39 (.mv 2), q 40 (.mv 3), qc 41 14 [38, 39, 40], q 37 (.mv 41), q 42 (.extract 37 0), q 43 (.extract 37 1), q 9 (.mv 42), q 10 (.mv 43)]) (.s (.ops [q 45 (.loadN 9 5), q 46 (.mv 2), q 47 (.mv 3), qc 48 14 [45, 46, 47], q 44 (.mv 48), q 49 (.extract 44 0), q 50 (.extract 44 1), q 11 (.mv 49), q 12 (.mv 50)]) (.s (.ops [q 52 (.loadN 9 4), q 53 (.loadN 9 5), q 54 (.bslD 9 2 true [(.int .u8 0), (.int .u64 0), (.int .u64 0), (.int .u64 0), (.int .u64 0), (.int .i64 0), (.int .i64 0), (.int .i64 0), .nils] [(0, (9, 52)), (9, (9, 53))]), q 55 (.build [(.int .u8 0), (.int .u64 0), (.int .u64 0), (.int .u64 0), (.int .u64 0), (.int .i64 0), (.int .i64 0), (.int .i64 0), .nils] [(0, (1, (ku 3))), (8, (1, 54))]), q 56 (.mv 2), q 57 (.mv 3), qc 58 14 [55, 56, 57], q 51 (.mv 58), q 59 (.extract 51 0), q 60 (.extract 51 1), q 13 (.mv 59), q 14 (.mv 60)]) (.s (.ops [q 62 (.loadN 9 4), q 63 (.loadN 9 5), q 64 (.bslD 9 2 true [(.int .u8 0), (.int .u64 0), (.int .u64 0), (.int .u64 0), (.int .u64 0), (.int .i64 0), (.int .i64 0), (.int .i64 0), .nils] [(0, (9, 62)), (9, (9, 63))]), q 65 (.build [(.int .u8 0), (.int .u64 0), (.int .u64 0), (.int .u64 0), (.int .u64 0), (.int .i64 0), (.int .i64 0), (.int .i64 0), .nils] [(0, (1, (ku 4))), (8, (1, 64))]), q 66 (.mv 2), q 67 (.mv 3), qc 68 14 [65, 66, 67], q 61 (.mv 68), q 69 (.extract 61 0), q 70 (.extract 61 1), q 15 (.mv 69), q 16 (.mv 70)]) (.s (.s (.ops [q 71 (.mv 10), q 72 (.un .not 71), q 73 (.mv 72), (q 74 (.mv 12)).n 73, (q 75 (.un .not 74)).n 73, q 76 (.pick 73 (.c (.bool true)) 75), q 77 (.mv 76), (q 78 (.mv 14)).n 77, (q 79 (.un .not 78)).n 77, q 80 (.pick 77 (.c (.bool true)) 79), q 81 (.mv 80), (q 82 (.mv 16)).n 81, (q 83 (.un .not 82)).n 81, q 84 (.pick 81 (.c (.bool true)) 83)]) (.cond 84 (.s (.ops [q 8 (.mv (.c (.bool true)))]) .ret) .skip)) (.s (.ops [q 85 (.mv 2), q 86 (.lenS 85), q 87 (.binI .add 86 (ki 1)), q 88 (.mkslice 1 1 [(.bool false)] 87 87 true), q 17 (.mv 88)]) (.s (.ops [q 89 (.mv 2), q 90 (.lenS 89), q 91 (.binI .add 90 (ki 1)), q 92 (.mkslice 1 1 [(.bool false)] 91 91 true), q 18 (.mv 92)]) (.s C4_40 C4_79))))))))))
def R4 : List RA := [(.tmp 8)]
theorem k4 : compF Try.prog (muL [4, 5, 54, 64, 88, 92]) 4 = some ⟨171, C4_1, R4⟩ := by kernel_rfl
noncomputable abbrev X4 (r : Bool) : Cx := cD Try.prog noG 171 R4 (AV.bool r) [4, 5, 54, 64, 88, 92]
inductive St4 where
 | p1 (s : Str) (b : T27) (x_ : Sl Int) (y : Sl Int) (cat : Sl Int) (alt : Sl Int) (i : Int) (one : Sl Bool) (two : Sl Bool)
 | p2 (s : Str) (b : T27) (x_ : Sl Int) (y : Sl Int) (cat : Sl Int) (alt : Sl Int) (i : Int) (z : Sl Int) (k : Int) (one : Sl Bool) (two : Sl Bool)
 | p3 (s : Str) (y : Sl Int) (cat : Sl Int) (alt : Sl Int) (i : Int) (one : Sl Bool) (two : Sl Bool)
 | p4 (s : Str) (cat : Sl Int) (alt : Sl Int) (i : Int) (one : Sl Bool) (two : Sl Bool) (want : Sl Int) (either : Sl Int)
 | p5 (s : Str) (cat : Sl Int) (alt : Sl Int) (i : Int) (one : Sl Bool) (two : Sl Bool) (want : Sl Int) (either : Sl Int)
noncomputable def G4 : St4 → Option Bool
 | .p1 s b x_ y cat alt i one two =>
  (if (decide (i < ((ls x_).length : Int))) = true then
   (ix (ls x_) i >>= fun v_27 =>
    (ix (ls two) v_27 >>= fun v_29 =>
     (ix (ls x_) i >>= fun v_31 =>
      (F14 b s v_31 >>= fun r_33 =>
       (if (!r_33.2) = true then
        (some false)
       else
        (G4 (.p2 s b x_ y cat alt i r_33.1 0 one (vset two v_27 true))))))))
  else
   (G4 (.p3 s y cat alt 0 one two)))
 | .p2 s b x_ y cat alt i z k one two =>
  (if (decide (k < ((ls z).length : Int))) = true then
   (ix (ls z) k >>= fun v_37 =>
    (ix (ls one) v_37 >>= fun v_39 =>
     (G4 (.p2 s b x_ y cat alt i z (IntKind.wrap .i64 (k + 1)) (vset one v_37 true) two))))
  else
   (G4 (.p1 s b x_ y cat alt (IntKind.wrap .i64 (i + 1)) one two)))
 | .p3 s y cat alt i one two =>
  (if (decide (i < ((ls y).length : Int))) = true then
   (ix (ls y) i >>= fun v_42 =>
    (ix (ls two) v_42 >>= fun v_44 =>
     (G4 (.p3 s y cat alt (IntKind.wrap .i64 (i + 1)) one (vset two v_42 true)))))
  else
   (G4 (.p4 s cat alt 0 one two none none)))
 | .p4 s cat alt i one two want either =>
  (if (decide (i ≤ ((s).length : Int))) = true then
   (ix (ls one) i >>= fun v_49 =>
    (if v_49 = true then
     (if ((ls want).length + (ls (some ([i] : List Int))).length) * 8 ≤ 140737488355328 then
      (G4 (.p5 s cat alt i one two (sapp want (ls (some ([i] : List Int)))) either))
     else none)
    else
     (G4 (.p5 s cat alt i one two want either))))
  else
   (F15 cat want >>= fun r_55 =>
    (if r_55 = true then
     (F15 alt either >>= fun r_58 =>
      (some r_58))
    else
     (some false))))
 | .p5 s cat alt i one two want either =>
  (ix (ls two) i >>= fun v_60 =>
   (if v_60 = true then
    (if ((ls either).length + (ls (some ([i] : List Int))).length) * 8 ≤ 140737488355328 then
     (G4 (.p4 s cat alt (IntKind.wrap .i64 (i + 1)) one two want (sapp either (ls (some ([i] : List Int))))))
    else none)
   else
    (G4 (.p4 s cat alt (IntKind.wrap .i64 (i + 1)) one two want either))))
 partial_fixpoint
def M4 (x : St4) (r : Bool) : Prop := match x with
 | .p1 s b x_ y cat alt i one two => ∀ (tm : Fr) (st : Store) (io0 : Nat) (io1 : Nat), Frm tm [(2, AV.str s), (5, .dptr (c27 b)), (9, slV 1 (AV.int .i64) x_), (11, slV 1 (AV.int .i64) y), (13, slV 1 (AV.int .i64) cat), (15, slV 1 (AV.int .i64) alt), (17, rvV 1 one io0), (18, rvV 1 two io1), (19, AV.int .i64 i)] → SH st [rvA cB io0 one, rvA cB io1 two] → W (X4 r) [.lp C4_44, .blk 0, .code C4_79] tm st
 | .p2 s b x_ y cat alt i z k one two => ∀ (tm : Fr) (st : Store) (io0 : Nat) (io1 : Nat), Frm tm [(2, AV.str s), (5, .dptr (c27 b)), (9, slV 1 (AV.int .i64) x_), (11, slV 1 (AV.int .i64) y), (13, slV 1 (AV.int .i64) cat), (15, slV 1 (AV.int .i64) alt), (17, rvV 1 one io0), (18, rvV 1 two io1), (19, AV.int .i64 i), (20, slV 1 (AV.int .i64) z), (22, AV.int .i64 k)] → SH st [rvA cB io0 one, rvA cB io1 two] → W (X4 r) [.lp C4_68, .blk 2, .blk 1, .code C4_78, .lp C4_44, .blk 0, .code C4_79] tm st
 | .p3 s y cat alt i one two => ∀ (tm : Fr) (st : Store) (io0 : Nat) (io1 : Nat), Frm tm [(2, AV.str s), (11, slV 1 (AV.int .i64) y), (13, slV 1 (AV.int .i64) cat), (15, slV 1 (AV.int .i64) alt), (17, rvV 1 one io0), (18, rvV 1 two io1), (23, AV.int .i64 i)] → SH st [rvA cB io0 one, rvA cB io1 two] → W (X4 r) [.lp C4_84, .blk 4, .code C4_94] tm st
 | .p4 s cat alt i one two want either => ∀ (tm : Fr) (st : Store) (io0 : Nat) (io1 : Nat) (io2 : Nat) (io3 : Nat), Frm tm [(2, AV.str s), (13, slV 1 (AV.int .i64) cat), (15, slV 1 (AV.int .i64) alt), (17, rvV 1 one io0), (18, rvV 1 two io1), (24, ownV 1 (AV.int .i64) want io2), (25, ownV 1 (AV.int .i64) either io3), (26, AV.int .i64 i)] → SH st [rvA cB io0 one, rvA cB io1 two, ownA io2 want, ownA io3 either] → W (X4 r) [.lp C4_103, .blk 6, .code C4_123] tm st
 | .p5 s cat alt i one two want either => ∀ (tm : Fr) (st : Store) (io0 : Nat) (io1 : Nat) (io2 : Nat) (io3 : Nat), Frm tm [(2, AV.str s), (13, slV 1 (AV.int .i64) cat), (15, slV 1 (AV.int .i64) alt), (17, rvV 1 one io0), (18, rvV 1 two io1), (24, ownV 1 (AV.int .i64) want io2), (25, ownV 1 (AV.int .i64) either io3), (26, AV.int .i64 i)] → SH st [rvA cB io0 one, rvA cB io1 two, ownA io2 want, ownA io3 either] → W (X4 r) [.code C4_117, .blk 7, .code C4_122, .lp C4_103, .blk 6, .code C4_123] tm st
theorem w4 : ∀ (x : St4) (r : Bool), G4 x = some r → M4 x r := by
 refine G4.partial_correctness (M4) ?_
 intro g ih x r hF
 cases x with
 | p1 s b x_ y cat alt i one two =>
  dsimp only at hF
  intro tm st io0 io1 hf hs
  refine en hf ?_
  refine lp ?_
  refine rn 2 rfl ?_
  refine W.o (e_len (rd_V rfl)) ?_
  refine rn 1 rfl ?_
  refine ci hF rfl (fun c_26 hF => ?_) (fun c_26 hF => ?_)
  · obtain ⟨v_27, g_28, hF⟩ := bind_some hF
    refine rn 3 rfl ?_
    refine W.o (e_iaddrL (rd_V rfl) rfl g_28) ?_
    refine W.o (l1D rfl rfl) ?_
    obtain ⟨v_29, g_30, hF⟩ := bind_some hF
    refine W.o (e_iaddrV hs 1 rfl rfl rfl g_30) ?_
    refine slv hs 1 rfl rfl g_30 rfl (LR.cast (LR.comp (LR.whole _ _) (lrV_set cB_len g_30 true)) (by omega)) (cB_len _) rfl (cB_len _) (cB_one _) rfl fun st hs => ?_
    refine rn 0 rfl ?_
    have h0 := hs
    refine dr0 ?_
    refine de rfl (e_loadND rfl (DP.refl _) (c27_len _)) ?_
    obtain ⟨v_31, g_32, hF⟩ := bind_some hF
    refine dn 3 rfl ?_
    refine de rfl (e_iaddrL (rd_V rfl) rfl g_32) ?_
    refine de rfl (l1D rfl rfl) ?_
    obtain ⟨r_33, g_34, hF⟩ := bind_some hF
    refine ddf (d14 b s v_31 _ g_34) rfl ?_
    refine dn 5 rfl ?_
    refine dz ?_
    refine rn 2 rfl ?_
    refine ci hF rfl (fun c_35 hF => ?_) (fun c_35 hF => ?_)
    · refine rn 1 rfl ?_
      cases hF
      exact rD (rlt rl0) rfl
    · refine rn 1 rfl ?_
      exact ih (.p2 s b x_ y cat alt i r_33.1 0 one (vset two v_27 true)) _ hF _ _ io0 io1 ⟨rfl, rfl, rfl, rfl, rfl, rfl, rfl, (show rvV 1 two io1 = rvV 1 (vset two v_27 true) io1 by simp only [rvV_vset]), rfl, rfl, rfl, trivial⟩ hs
  · refine rn 1 rfl ?_
    exact ih (.p3 s y cat alt 0 one two) _ hF _ _ io0 io1 ⟨rfl, rfl, rfl, rfl, rfl, rfl, rfl, trivial⟩ hs
 | p2 s b x_ y cat alt i z k one two =>
  dsimp only at hF
  intro tm st io0 io1 hf hs
  refine en hf ?_
  refine lp ?_
  refine rn 2 rfl ?_
  refine W.o (e_len (rd_V rfl)) ?_
  refine rn 1 rfl ?_
  refine ci hF rfl (fun c_36 hF => ?_) (fun c_36 hF => ?_)
  · obtain ⟨v_37, g_38, hF⟩ := bind_some hF
    refine rn 3 rfl ?_
    refine W.o (e_iaddrL (rd_V rfl) rfl g_38) ?_
    refine W.o (l1D rfl rfl) ?_
    obtain ⟨v_39, g_40, hF⟩ := bind_some hF
    refine W.o (e_iaddrV hs 0 rfl rfl rfl g_40) ?_
    refine slv hs 0 rfl rfl g_40 rfl (LR.cast (LR.comp (LR.whole _ _) (lrV_set cB_len g_40 true)) (by omega)) (cB_len _) rfl (cB_len _) (cB_one _) rfl fun st hs => ?_
    refine rn 3 rfl ?_
    exact ih (.p2 s b x_ y cat alt i z (IntKind.wrap .i64 (k + 1)) (vset one v_37 true) two) _ hF _ _ io0 io1 ⟨rfl, rfl, rfl, rfl, rfl, rfl, (show rvV 1 one io0 = rvV 1 (vset one v_37 true) io0 by simp only [rvV_vset]), rfl, rfl, rfl, rfl, trivial⟩ hs
  · refine rn 3 rfl ?_
    exact ih (.p1 s b x_ y cat alt (IntKind.wrap .i64 (i + 1)) one two) _ hF _ _ io0 io1 ⟨rfl, rfl, rfl, rfl, rfl, rfl, rfl, rfl, rfl, trivial⟩ hs
 | p3 s y cat alt i one two =>
  dsimp only at hF
  intro tm st io0 io1 hf hs
  refine en hf ?_
  refine lp ?_
  refine rn 2 rfl ?_
  refine W.o (e_len (rd_V rfl)) ?_
  refine rn 1 rfl ?_
  refine ci hF rfl (fun c_41 hF => ?_) (fun c_41 hF => ?_)
  · obtain ⟨v_42, g_43, hF⟩ := bind_some hF
    refine rn 3 rfl ?_
    refine W.o (e_iaddrL (rd_V rfl) rfl g_43) ?_
    refine W.o (l1D rfl rfl) ?_
    obtain ⟨v_44, g_45, hF⟩ := bind_some hF
    refine W.o (e_iaddrV hs 1 rfl rfl rfl g_45) ?_
    refine slv hs 1 rfl rfl g_45 rfl (LR.cast (LR.comp (LR.whole _ _) (lrV_set cB_len g_45 true)) (by omega)) (cB_len _) rfl (cB_len _) (cB_one _) rfl fun st hs => ?_
    refine rn 3 rfl ?_
    exact ih (.p3 s y cat alt (IntKind.wrap .i64 (i + 1)) one (vset two v_42 true)) _ hF _ _ io0 io1 ⟨rfl, rfl, rfl, rfl, rfl, (show rvV 1 two io1 = rvV 1 (vset two v_42 true) io1 by simp only [rvV_vset]), rfl, trivial⟩ hs
  · refine rn 3 rfl ?_
    have hs := hs.ownNil Int
    have hs := hs.ownNil Int
    exact ih (.p4 s cat alt 0 one two none none) _ hF _ _ io0 io1 0 0 ⟨rfl, rfl, rfl, rfl, rfl, rfl, rfl, rfl, trivial⟩ (hs.p 4 [2, 2, 1, 0] rfl)
 | p4 s cat alt i one two want either =>
  dsimp only at hF
  intro tm st io0 io1 io2 io3 hf hs
  refine en hf ?_
  refine lp ?_
  refine rn 4 rfl ?_
  refine ci hF rfl (fun c_48 hF => ?_) (fun c_48 hF => ?_)
  · obtain ⟨v_49, g_50, hF⟩ := bind_some hF
    refine rn 2 rfl ?_
    refine W.o (e_iaddrV hs 0 rfl rfl rfl g_50) ?_
    refine W.o (e_load1 rfl (SH.gv hs 0 rfl g_50) (LR.cast (LR.comp (LR.whole _ _) (lrV_get cB_len g_50)) (by omega))) ?_
    refine rn 0 rfl ?_
    refine ci hF rfl (fun c_51 hF => ?_) (fun c_51 hF => ?_)
    · refine rn 2 rfl ?_
      refine bs (f := AV.int .i64) ([i] : List Int) hs rfl rfl rfl rfl fun st b_52 hs => ?_
      obtain ⟨g_53, hF⟩ := grd_some hF
      refine ap (ys := ls (some ([i] : List Int))) hs 3 rfl rfl (ae_rd (rd_W (o := (some ([i] : List Int))) (id := b_52) rfl)) g_53 (fun _ => rfl) fun st b_54 hs => ?_
      refine rj 1 1 rfl ?_
      exact ih (.p5 s cat alt i one two (sapp want (ls (some ([i] : List Int)))) either) _ hF _ _ io0 io1 b_54 io3 ⟨rfl, rfl, rfl, rfl, rfl, rfl, rfl, rfl, trivial⟩ (hs.p 5 [1, 1, 1, 1] rfl)
    · refine rj 0 1 rfl ?_
      exact ih (.p5 s cat alt i one two want either) _ hF _ _ io0 io1 io2 io3 ⟨rfl, rfl, rfl, rfl, rfl, rfl, rfl, rfl, trivial⟩ hs
  · obtain ⟨r_55, g_56, hF⟩ := bind_some hF
    refine rn 2 rfl ?_
    refine df' (d15 cat want _ g_56) (ds := [slV 1 (AV.int .i64) cat, slV 1 (AV.int .i64) want]) (dsl_cons (dsv (v := slV 1 (AV.int .i64) cat)) (dsl_cons (dsw (es := 1) (f := AV.int .i64) (o := want) (id := io2)) dsl_nil)) ?_
    refine rn 1 rfl ?_
    refine bi hF (fun c_57 hF => ?_) (fun c_57 hF => ?_)
    · refine wfx 166 rfl c_57 ?_
      obtain ⟨r_58, g_59, hF⟩ := bind_some hF
      refine rn 2 rfl ?_
      refine W.on rfl rfl ?_
      refine df' (d15 alt either _ g_59) (ds := [slV 1 (AV.int .i64) alt, slV 1 (AV.int .i64) either]) (dsl_cons (dsv (v := slV 1 (AV.int .i64) alt)) (dsl_cons (dsw (es := 1) (f := AV.int .i64) (o := either) (id := io3)) dsl_nil)) ?_
      refine rn 2 rfl ?_
      cases hF
      exact rD (rlt rl0) rfl
    · refine wfx 166 rfl c_57 ?_
      refine rn 5 rfl ?_
      cases hF
      exact rD (rlt rl0) rfl
 | p5 s cat alt i one two want either =>
  dsimp only at hF
  intro tm st io0 io1 io2 io3 hf hs
  refine en hf ?_
  obtain ⟨v_60, g_61, hF⟩ := bind_some hF
  refine rn 2 rfl ?_
  refine W.o (e_iaddrV hs 1 rfl rfl rfl g_61) ?_
  refine W.o (e_load1 rfl (SH.gv hs 1 rfl g_61) (LR.cast (LR.comp (LR.whole _ _) (lrV_get cB_len g_61)) (by omega))) ?_
  refine rn 0 rfl ?_
  refine ci hF rfl (fun c_62 hF => ?_) (fun c_62 hF => ?_)
  · refine rn 2 rfl ?_
    refine bs (f := AV.int .i64) ([i] : List Int) hs rfl rfl rfl rfl fun st b_63 hs => ?_
    obtain ⟨g_64, hF⟩ := grd_some hF
    refine ap (ys := ls (some ([i] : List Int))) hs 4 rfl rfl (ae_rd (rd_W (o := (some ([i] : List Int))) (id := b_63) rfl)) g_64 (fun _ => rfl) fun st b_65 hs => ?_
    refine rn 4 rfl ?_
    exact ih (.p4 s cat alt (IntKind.wrap .i64 (i + 1)) one two want (sapp either (ls (some ([i] : List Int))))) _ hF _ _ io0 io1 io2 b_65 ⟨rfl, rfl, rfl, rfl, rfl, rfl, rfl, rfl, trivial⟩ (hs.p 5 [1, 1, 1, 1] rfl)
  · refine rn 3 rfl ?_
    exact ih (.p4 s cat alt (IntKind.wrap .i64 (i + 1)) one two want either) _ hF _ _ io0 io1 io2 io3 ⟨rfl, rfl, rfl, rfl, rfl, rfl, rfl, rfl, trivial⟩ hs
noncomputable def F4 (a : T27) (b : T27) (s : Str) (from_ : Int) : Option Bool :=
 (F8 >>= fun r_1 =>
  (if (!r_1) = true then
   (some false)
  else
   (F13 a >>= fun r_4 =>
    (if (decide (r_4 > 0)) = true then
     (some true)
    else
     (F13 b >>= fun r_7 =>
      (if (decide (r_7 > 0)) = true then
       (some true)
      else
       (F14 a s from_ >>= fun r_10 =>
        (F14 b s from_ >>= fun r_12 =>
         (F14 ({ Kind := 3, Set := (Arr.rep 4 0), Min := 0, Max := 0, Group := 0, Kids := (some ([a, b] : List T27)) } : T27) s from_ >>= fun r_14 =>
          (F14 ({ Kind := 4, Set := (Arr.rep 4 0), Min := 0, Max := 0, Group := 0, Kids := (some ([a, b] : List T27)) } : T27) s from_ >>= fun r_16 =>
           (if (!r_10.2) = true then
            (some true)
           else
            (if (!r_12.2) = true then
             (some true)
            else
             (if (!r_14.2) = true then
              (some true)
             else
              (if (!r_16.2) = true then
               (some true)
              else
               (if 0 ≤ (IntKind.wrap .i64 (((s).length : Int) + 1)) ∧ (IntKind.wrap .i64 (((s).length : Int) + 1)) = (IntKind.wrap .i64 (((s).length : Int) + 1)) ∧ (1 : Int) * (IntKind.wrap .i64 (((s).length : Int) + 1)) ≤ 281474976710656 then
                (if 0 ≤ (IntKind.wrap .i64 (((s).length : Int) + 1)) ∧ (IntKind.wrap .i64 (((s).length : Int) + 1)) = (IntKind.wrap .i64 (((s).length : Int) + 1)) ∧ (1 : Int) * (IntKind.wrap .i64 (((s).length : Int) + 1)) ≤ 281474976710656 then
                 (G4 (.p1 s b r_10.1 r_12.1 r_14.1 r_16.1 0 (some (List.replicate (Int.toNat (IntKind.wrap .i64 (((s).length : Int) + 1))) (false : Bool))) (some (List.replicate (Int.toNat (IntKind.wrap .i64 (((s).length : Int) + 1))) (false : Bool)))))
                else none)
               else none)))))))))))))))
theorem d4 (a : T27) (b : T27) (s : Str) (from_ : Int) (r : Bool) (hF : F4 a b s from_ = some r) : DFun Try.prog noG 4 [v27 a, v27 b, AV.str s, AV.int .i64 from_] (AV.bool r) := by
 unfold F4 at hF
 refine bD k4 rfl ?_
 have hs : SH [] [] := SH.nil
 generalize ([] : Store) = st at hs ⊢
 refine rn 0 rfl ?_
 refine W.o (e_boxD (cs := c27 a) rfl (by rw [c27_len]; rfl) (c27_one _)) ?_
 refine W.o (e_boxD (cs := c27 b) rfl (by rw [c27_len]; rfl) (c27_one _)) ?_
 obtain ⟨r_1, g_2, hF⟩ := bind_some hF
 refine rn 1 rfl ?_
 refine df (d8 _ g_2) rfl ?_
 refine rn 1 rfl ?_
 refine ci hF rfl (fun c_3 hF => ?_) (fun c_3 hF => ?_)
 · refine rn 1 rfl ?_
   cases hF
   exact rD (rlt rl0) rfl
 · refine rn 0 rfl ?_
   refine W.o (e_loadND rfl (DP.refl _) (c27_len _)) ?_
   obtain ⟨r_4, g_5, hF⟩ := bind_some hF
   refine df (d13 a _ g_5) rfl ?_
   refine rn 2 rfl ?_
   refine bi hF (fun c_6 hF => ?_) (fun c_6 hF => ?_)
   · refine wfx 32 rfl c_6 ?_
     refine rn 4 rfl ?_
     refine ct rfl rfl ?_
     refine rn 1 rfl ?_
     cases hF
     exact rD (rlt rl0) rfl
   · refine wfx 32 rfl c_6 ?_
     refine W.on rfl rfl ?_
     refine W.o (e_loadND rfl (DP.refl _) (c27_len _)) ?_
     obtain ⟨r_7, g_8, hF⟩ := bind_some hF
     refine W.on rfl rfl ?_
     refine df (d13 b _ g_8) rfl ?_
     refine rn 2 rfl ?_
     refine ci hF rfl (fun c_9 hF => ?_) (fun c_9 hF => ?_)
     · refine rn 1 rfl ?_
       cases hF
       exact rD (rlt rl0) rfl
     · refine rn 0 rfl ?_
       refine W.o (e_loadND rfl (DP.refl _) (c27_len _)) ?_
       obtain ⟨r_10, g_11, hF⟩ := bind_some hF
       refine rn 2 rfl ?_
       refine df (d14 a s from_ _ g_11) rfl ?_
       refine rn 5 rfl ?_
       refine W.o (e_loadND rfl (DP.refl _) (c27_len _)) ?_
       obtain ⟨r_12, g_13, hF⟩ := bind_some hF
       refine rn 2 rfl ?_
       refine df (d14 b s from_ _ g_13) rfl ?_
       refine rn 5 rfl ?_
       refine W.o (e_loadND rfl (DP.refl _) (c27_len _)) ?_
       refine W.o (e_loadND rfl (DP.refl _) (c27_len _)) ?_
       refine W.o (e_bslG (f := v27) (c := c27) ([a, b] : List T27) (pk_cons (cs := c27 a) rfl rfl (c27_len _) (by decide) (pk_cons (cs := c27 b) rfl rfl (c27_len _) (by decide) pk_nil)) rfl rfl c27_len c27_one (fun _ => rfl) rfl) ?_
       refine W.o (e_build (z := [(.int .u8 0), (.int .u64 0), (.int .u64 0), (.int .u64 0), (.int .u64 0), (.int .i64 0), (.int .i64 0), (.int .i64 0), .nils]) (cs := c27 ({ Kind := 3, Set := (Arr.rep 4 0), Min := 0, Max := 0, Group := 0, Kids := (some ([a, b] : List T27)) } : T27)) (pk_cons (cs := cI .u8 3) rfl rfl ((cI_len .u8) _) (by decide) (pk_cons (cs := cSl 9 v27 (some ([a, b] : List T27))) (v := slV 9 v27 (some ([a, b] : List T27))) rfl slV_cells (cSl_len _) (by decide) pk_nil)) (show fillA (c27 ({ Kind := 0, Set := (Arr.rep 4 0), Min := 0, Max := 0, Group := 0, Kids := none } : T27)) _ = _ from (fl_cons (lr27_Kind ({ Kind := 0, Set := (Arr.rep 4 0), Min := 0, Max := 0, Group := 0, Kids := none } : T27) 3) (((cI_len .u8) _).trans ((cI_len .u8) _).symm) (fl_cons (lr27_Kids ({ Kind := 3, Set := (Arr.rep 4 0), Min := 0, Max := 0, Group := 0, Kids := none } : T27) (some ([a, b] : List T27))) ((cSl_len _).trans (cSl_len _).symm) (fl_nil _))))) ?_
       obtain ⟨r_14, g_15, hF⟩ := bind_some hF
       refine rn 2 rfl ?_
       refine df (d14 ({ Kind := 3, Set := (Arr.rep 4 0), Min := 0, Max := 0, Group := 0, Kids := (some ([a, b] : List T27)) } : T27) s from_ _ g_15) rfl ?_
       refine rn 5 rfl ?_
       refine W.o (e_loadND rfl (DP.refl _) (c27_len _)) ?_
       refine W.o (e_loadND rfl (DP.refl _) (c27_len _)) ?_
       refine W.o (e_bslG (f := v27) (c := c27) ([a, b] : List T27) (pk_cons (cs := c27 a) rfl rfl (c27_len _) (by decide) (pk_cons (cs := c27 b) rfl rfl (c27_len _) (by decide) pk_nil)) rfl rfl c27_len c27_one (fun _ => rfl) rfl) ?_
       refine W.o (e_build (z := [(.int .u8 0), (.int .u64 0), (.int .u64 0), (.int .u64 0), (.int .u64 0), (.int .i64 0), (.int .i64 0), (.int .i64 0), .nils]) (cs := c27 ({ Kind := 4, Set := (Arr.rep 4 0), Min := 0, Max := 0, Group := 0, Kids := (some ([a, b] : List T27)) } : T27)) (pk_cons (cs := cI .u8 4) rfl rfl ((cI_len .u8) _) (by decide) (pk_cons (cs := cSl 9 v27 (some ([a, b] : List T27))) (v := slV 9 v27 (some ([a, b] : List T27))) rfl slV_cells (cSl_len _) (by decide) pk_nil)) (show fillA (c27 ({ Kind := 0, Set := (Arr.rep 4 0), Min := 0, Max := 0, Group := 0, Kids := none } : T27)) _ = _ from (fl_cons (lr27_Kind ({ Kind := 0, Set := (Arr.rep 4 0), Min := 0, Max := 0, Group := 0, Kids := none } : T27) 4) (((cI_len .u8) _).trans ((cI_len .u8) _).symm) (fl_cons (lr27_Kids ({ Kind := 4, Set := (Arr.rep 4 0), Min := 0, Max := 0, Group := 0, Kids := none } : T27) (some ([a, b] : List T27))) ((cSl_len _).trans (cSl_len _).symm) (fl_nil _))))) ?_
       obtain ⟨r_16, g_17, hF⟩ := bind_some hF
       refine rn 2 rfl ?_
       refine df (d14 ({ Kind := 4, Set := (Arr.rep 4 0), Min := 0, Max := 0, Group := 0, Kids := (some ([a, b] : List T27)) } : T27) s from_ _ g_17) rfl ?_
       refine rn 8 rfl ?_
       refine bi hF (fun c_18 hF => ?_) (fun c_18 hF => ?_)
       · refine wfx 73 rfl c_18 ?_
         refine rn 11 rfl ?_
         refine ct rfl rfl ?_
         refine rn 1 rfl ?_
         cases hF
         exact rD (rlt rl0) rfl
       · refine wfx 73 rfl c_18 ?_
         refine rn 4 rfl ?_
         refine bi hF (fun c_19 hF => ?_) (fun c_19 hF => ?_)
         · refine wfx 77 rfl c_19 ?_
           refine rn 7 rfl ?_
           refine ct rfl rfl ?_
           refine rn 1 rfl ?_
           cases hF
           exact rD (rlt rl0) rfl
         · refine wfx 77 rfl c_19 ?_
           refine rn 4 rfl ?_
           refine bi hF (fun c_20 hF => ?_) (fun c_20 hF => ?_)
           · refine wfx 81 rfl c_20 ?_
             refine rn 3 rfl ?_
             refine ct rfl rfl ?_
             refine rn 1 rfl ?_
             cases hF
             exact rD (rlt rl0) rfl
           · refine wfx 81 rfl c_20 ?_
             refine rn 3 rfl ?_
             refine ci hF rfl (fun c_21 hF => ?_) (fun c_21 hF => ?_)
             · refine rn 1 rfl ?_
               cases hF
               exact rD (rlt rl0) rfl
             · obtain ⟨g_23, hF⟩ := grd_some hF
               refine rn 3 rfl ?_
               refine mkV (c := cB) (false : Bool) hs rfl rfl rfl g_23 fun st b_22 hs => ?_
               obtain ⟨g_25, hF⟩ := grd_some hF
               refine rn 4 rfl ?_
               refine mkV (c := cB) (false : Bool) hs rfl rfl rfl g_25 fun st b_24 hs => ?_
               refine rn 2 rfl ?_
               exact w4 (.p1 s b r_10.1 r_12.1 r_14.1 r_16.1 0 (some (List.replicate (Int.toNat (IntKind.wrap .i64 (((s).length : Int) + 1))) (false : Bool))) (some (List.replicate (Int.toNat (IntKind.wrap .i64 (((s).length : Int) + 1))) (false : Bool)))) _ hF _ _ b_22 b_24 ⟨rfl, rfl, rfl, rfl, rfl, rfl, rfl, rfl, rfl, trivial⟩ (hs.p 2 [1, 0] rfl)
end Go.Proofs.Ytjbafmnocopofaa
end
section
/-
  Plain words for printed functions: binds, guards, wrapped numbers, lists read by index, slices as lists.
-/

namespace Go.Proofs.Ytjbafmnocopofaa
open Go AW
set_option linter.unusedVariables false
set_option linter.unusedSimpArgs false
theorem sm {α β : Type} (a : α) (f : α → Option β) : (some a >>= f) = f a := rfl
theorem ti {α : Type} {b : Bool} {x y : α} (h : b = true) : (if b = true then x else y) = x := if_pos h
theorem fi_ {α : Type} {b : Bool} {x y : α} (h : b = false) : (if b = true then x else y) = y := by rw [h]; rfl
theorem dti {p : Prop} [Decidable p] {α : Type} {x y : α} (h : p) : (if decide p = true then x else y) = x := by simp [h]
theorem dfi {p : Prop} [Decidable p] {α : Type} {x y : α} (h : ¬ p) : (if decide p = true then x else y) = y := by simp [h]
theorem eti {a b : Int} {α : Type} {x y : α} (h : a = b) : (if (a == b) = true then x else y) = x := by simp [h]
theorem efi {a b : Int} {α : Type} {x y : α} (h : a ≠ b) : (if (a == b) = true then x else y) = y := by simp [h]
theorem nti {a b : Int} {α : Type} {x y : α} (h : a ≠ b) : (if (a != b) = true then x else y) = x := by simp [h]
theorem nfi {a b : Int} {α : Type} {x y : α} (h : a = b) : (if (a != b) = true then x else y) = y := by simp [h]
theorem wi (x : Int) (h : -9223372036854775808 ≤ x) (h' : x ≤ 9223372036854775807) : IntKind.wrap .i64 x = x := by
  simp only [IntKind.wrap, IntKind.bits, IntKind.signed, Bool.true_and, decide_eq_true_eq, ge_iff_le]
  have e : (2 : Int) ^ 64 = 18446744073709551616 := by decide
  have e' : (2 : Int) ^ (64 - 1) = 9223372036854775808 := by decide
  first
    | (split <;> omega)
    | (simp only [e, e']; split <;> omega)
theorem wn (n : Nat) (h : n ≤ 9223372036854775807) : IntKind.wrap .i64 (n : Int) = n := wi _ (by omega) (by omega)
theorem wn1 (n : Nat) (h : n < 9223372036854775807) : IntKind.wrap .i64 ((n : Int) + 1) = ((n + 1 : Nat) : Int) := by rw [wi _ (by omega) (by omega)]; omega
theorem wm1 (n : Nat) (h : 1 ≤ n) (h' : n < 9223372036854775807) : IntKind.wrap .i64 ((n : Int) - 1) = ((n - 1 : Nat) : Int) := by rw [wi _ (by omega) (by omega)]; omega
theorem ixs {α : Type} {l : List α} {i : Nat} {c : α} (h : l[i]? = some c) : ix l (i : Int) = some c := by rw [ix_nat]; exact h
theorem ixz {α : Type} {l : List α} {i : Int} {c : α} (h0 : 0 ≤ i) (h : l[i.toNat]? = some c) : ix l i = some c := by simp only [ix, if_pos h0, h]
theorem get_ex {α : Type} (l : List α) {i : Nat} (h : i < l.length) : ∃ c, l[i]? = some c := ⟨l[i], by simp [h]⟩
theorem drop_cons {α : Type} {l : List α} {i : Nat} {c : α} (h : l[i]? = some c) : l.drop i = c :: l.drop (i + 1) := by
  have hi : i < l.length := by rw [List.getElem?_eq_some_iff] at h; exact h.1
  rw [List.drop_eq_getElem_cons hi]
  congr 1
  rw [List.getElem?_eq_some_iff] at h
  exact h.2
theorem take_snoc {α : Type} {l : List α} {i : Nat} {c : α} (h : l[i]? = some c) : l.take (i + 1) = l.take i ++ [c] := by
  rw [List.take_add_one, h]; rfl
theorem ge_lt {α : Type} {l : List α} {i : Nat} {c : α} (h : l[i]? = some c) : i < l.length := by rw [List.getElem?_eq_some_iff] at h; exact h.1
/-- A list as the program keeps it. -/
def so {α : Type} : List α → Sl α
  | [] => none
  | x :: l => some (x :: l)
theorem ls_so {α : Type} (l : List α) : ls (so l) = l := by cases l <;> rfl
theorem sapp_so {α : Type} (l m : List α) : sapp (so l) m = so (l ++ m) := by
  cases l with
  | nil => cases m <;> rfl
  | cons x l => rfl
theorem so_nil {α : Type} : (so [] : Sl α) = none := rfl
theorem so_cons {α : Type} (x : α) (l : List α) : so (x :: l) = some (x :: l) := rfl
theorem i64_lt {n : Int} (h : okI .i64 n) : -9223372036854775808 ≤ n ∧ n ≤ 9223372036854775807 := by
  simp only [okI, Lit.wf, IntKind.min, IntKind.max, IntKind.bits, IntKind.signed, Bool.and_eq_true, decide_eq_true_eq] at h
  simp at h
  omega
end Go.Proofs.Ytjbafmnocopofaa
end
section
/-
  Nfa: which programs are right, by the program and by the reference; which have back-references; the fault of a program.
-/


namespace Go.Proofs.Ytjbafmnocopofaa
open Go AW
set_option linter.unusedVariables false
set_option linter.unusedSimpArgs false
set_option maxHeartbeats 4000000
/-- Is an instruction right, but for its being the last one? -/
def fit (p : T34) (x : T52) : Bool :=
  if x.Kind = 1 then decide (({ Kind := x.Kind, Set := x.Set, To := 0, Group := 0, Last := 0, Slot := 0 } : T52) = x)
  else if x.Kind = 2 ∨ x.Kind = 3 then decide (({ Kind := x.Kind, Set := Arr.rep 4 0, To := x.To, Group := 0, Last := 0, Slot := 0 } : T52) = x) && decide (0 ≤ x.To ∧ x.To < ((ls p.Code).length : Int))
  else if x.Kind = 4 ∨ x.Kind = 5 ∨ x.Kind = 9 then decide (({ Kind := x.Kind, Set := Arr.rep 4 0, To := 0, Group := x.Group, Last := 0, Slot := 0 } : T52) = x) && decide (1 ≤ x.Group ∧ x.Group ≤ p.Groups)
  else if x.Kind = 6 then decide (({ Kind := x.Kind, Set := Arr.rep 4 0, To := 0, Group := x.Group, Last := x.Last, Slot := 0 } : T52) = x) && decide (1 ≤ x.Group ∧ x.Group ≤ p.Groups ∧ x.Group ≤ x.Last ∧ x.Last ≤ p.Groups)
  else if x.Kind = 7 ∨ x.Kind = 8 then decide (({ Kind := x.Kind, Set := Arr.rep 4 0, To := 0, Group := 0, Last := 0, Slot := x.Slot } : T52) = x) && decide (0 ≤ x.Slot ∧ x.Slot < p.Slots)
  else if x.Kind = 10 ∨ x.Kind = 11 ∨ x.Kind = 12 then decide (({ Kind := x.Kind, Set := Arr.rep 4 0, To := 0, Group := 0, Last := 0, Slot := 0 } : T52) = x)
  else false
def fits (p : T34) : Nat → List T52 → Bool
  | _, [] => true
  | i, x :: l => (fit p x && ((x.Kind == 12) == decide (i + 1 = (ls p.Code).length))) && fits p (i + 1) l
/-- Is a program right? -/
def rp (p : T34) : Bool := decide (0 ≤ p.Groups ∧ p.Groups ≤ 99 ∧ 0 ≤ p.Slots ∧ p.Slots ≤ 16384 ∧ 1 ≤ (ls p.Code).length ∧ (ls p.Code).length ≤ 16384) && fits p 0 (ls p.Code)
theorem kinds (k : Int) : k = 1 ∨ k = 2 ∨ k = 3 ∨ k = 4 ∨ k = 5 ∨ k = 6 ∨ k = 7 ∨ k = 8 ∨ k = 9 ∨ k = 10 ∨ k = 11 ∨ k = 12 ∨ (k ≠ 1 ∧ k ≠ 2 ∧ k ≠ 3 ∧ k ≠ 4 ∧ k ≠ 5 ∧ k ≠ 6 ∧ k ≠ 7 ∧ k ≠ 8 ∧ k ≠ 9 ∧ k ≠ 10 ∧ k ≠ 11 ∧ k ≠ 12) := by omega
theorem bite {α : Type} (c : Bool) (x y : α) : (if (!c) = true then x else y) = if c = true then y else x := by cases c <;> rfl
theorem g11_2 (p : T34) (n i : Int) (ok : Bool) (t : Sl T52) (a b : Int) (x y : T52) : G11 (.p2 p n i ok t a b x y) = if (ok && decide (y = x) && ((x.Kind == 12) == (i == IntKind.wrap .i64 (n - 1)))) = true then G11 (.p1 p n t a (IntKind.wrap .i64 (b + 1))) else some false := by
  rw [G11.eq_2, bite, bite, bite]
  cases ok <;> cases decide (y = x) <;> cases ((x.Kind == 12) == (i == IntKind.wrap .i64 (n - 1))) <;> rfl
theorem dec_beq (i n : Nat) : ((i : Int) == (n : Int)) = decide (i = n) := by
  rw [Bool.eq_iff_iff, beq_iff_eq, decide_eq_true_eq]; omega
theorem g11_3 (p : T34) (n i : Int) (t : Sl T52) (a b : Int) (x y : T52) : G11 (.p3 p n i t a b x y) = G11 (.p2 p n i (decide (0 ≤ x.To ∧ x.To < n)) t a b x { y with To := x.To }) := by
  rw [G11.eq_3]
  by_cases h : 0 ≤ x.To
  · rw [dti h]; simp [h]
  · rw [dfi h]; simp [h]
theorem g11_4 (p : T34) (n i : Int) (t : Sl T52) (a b : Int) (x y : T52) : G11 (.p4 p n i t a b x y) = G11 (.p2 p n i (decide (1 ≤ x.Group ∧ x.Group ≤ p.Groups)) t a b x { y with Group := x.Group }) := by
  rw [G11.eq_4]
  by_cases h : 1 ≤ x.Group
  · rw [dti h]; simp [h]
  · rw [dfi h]; simp [h]
theorem g11_5 (p : T34) (n i : Int) (t : Sl T52) (a b : Int) (x y : T52) : G11 (.p5 p n i t a b x y) = G11 (.p2 p n i (decide (0 ≤ x.Slot ∧ x.Slot < p.Slots)) t a b x { y with Slot := x.Slot }) := by
  rw [G11.eq_5]
  by_cases h : 0 ≤ x.Slot
  · rw [dti h]; simp [h]
  · rw [dfi h]; simp [h]
theorem and3 {α : Type} {a b c : Bool} {x y : α} : (if (a && b && c) = true then x else y) = if (b && a && c) = true then x else y := by rw [Bool.and_comm a b]
theorem g11_1 (p : T34) (n : Nat) (hn : n < 100000) (hn1 : n = (ls p.Code).length) (i : Nat) (hi : i < n) (x : T52) (hx : (ls p.Code)[i]? = some x) :
    G11 (.p1 p (n : Int) p.Code (n : Int) (i : Int)) = if (fit p x && ((x.Kind == 12) == decide (i + 1 = n))) = true then G11 (.p1 p (n : Int) p.Code (n : Int) ((i + 1 : Nat) : Int)) else some false := by
  have e : ((i : Int) == IntKind.wrap .i64 ((n : Int) - 1)) = decide (i + 1 = n) := by
    rw [wi _ (by omega) (by omega), Bool.eq_iff_iff, beq_iff_eq, decide_eq_true_eq]; omega
  rw [G11.eq_1, dti (by omega), ixs hx, sm, ← wn1 i (by omega), ← e]
  subst hn1
  unfold fit
  simp only [g11_3, g11_4, g11_5, g11_2]
  rcases kinds x.Kind with h | h | h | h | h | h | h | h | h | h | h | h | h
  case inr.inr.inr.inr.inr.inl =>
    simp (config := {decide := true}) only [h, if_true, if_false, Bool.true_and, true_or, or_true, or_false, false_or]
    by_cases h1 : 1 ≤ x.Group
    · by_cases h2 : x.Group ≤ p.Groups
      · by_cases h3 : x.Group ≤ x.Last
        · rw [dti h1, dti h2, dti h3]; simp [h1, h2, h3, Bool.and_comm, Bool.and_assoc, Bool.and_left_comm]
        · rw [dti h1, dti h2, dfi h3]; simp [h1, h2, h3]
      · rw [dti h1, dfi h2]; simp [h1, h2]
    · rw [dfi h1]; simp [h1]
  all_goals first
    | (simp (config := {decide := true}) only [h, if_true, if_false, Bool.true_and, true_or, or_true, or_false, false_or]; done)
    | (simp (config := {decide := true}) only [h, if_true, if_false, Bool.true_and, true_or, or_true, or_false, false_or]; rw [and3]; done)
    | (obtain ⟨a1, a2, a3, a4, a5, a6, a7, a8, a9, b1, b2, b3⟩ := h
       have e1 : ∀ k : Int, x.Kind ≠ k → (x.Kind == k) = false := fun k h => by simpa using h
       simp (config := {decide := true}) only [e1 _ a1, e1 _ a2, e1 _ a3, e1 _ a4, e1 _ a5, e1 _ a6, e1 _ a7, e1 _ a8, e1 _ a9, e1 _ b1, e1 _ b2, e1 _ b3, a1, a2, a3, a4, a5, a6, a7, a8, a9, b1, b2, b3, if_false, or_self, Bool.false_and, Bool.false_eq_true])
    | skip
theorem g11 (p : T34) (hn : (ls p.Code).length < 100000) : ∀ (k i : Nat), i + k = (ls p.Code).length → G11 (.p1 p ((ls p.Code).length : Int) p.Code ((ls p.Code).length : Int) (i : Int)) = some (fits p i ((ls p.Code).drop i))
  | 0, i, h => by
    rw [G11.eq_1, dfi (by omega), List.drop_of_length_le (by omega)]; rfl
  | k + 1, i, h => by
    obtain ⟨x, hx⟩ := get_ex (ls p.Code) (i := i) (by omega)
    rw [g11_1 p _ hn rfl i (by omega) x hx, g11 p hn k (i + 1) (by omega), drop_cons hx, fits]
    cases fit p x && ((x.Kind == 12) == decide (i + 1 = (ls p.Code).length)) <;> rfl
theorem f11 (p : T34) : F11 p = some (rp p) := by
  unfold F11 rp
  by_cases h1 : p.Groups < 0
  · rw [dti h1, decide_eq_false (by omega)]; rfl
  rw [dfi h1]
  by_cases h2 : p.Groups > 99
  · rw [dti h2, decide_eq_false (by omega)]; rfl
  rw [dfi h2]
  by_cases h3 : p.Slots < 0
  · rw [dti h3, decide_eq_false (by omega)]; rfl
  rw [dfi h3]
  by_cases h4 : p.Slots > 16384
  · rw [dti h4, decide_eq_false (by omega)]; rfl
  rw [dfi h4]
  by_cases h5 : ((ls p.Code).length : Int) < 1
  · rw [dti h5, decide_eq_false (by omega)]; rfl
  rw [dfi h5]
  by_cases h6 : ((ls p.Code).length : Int) > 16384
  · rw [dti h6, decide_eq_false (by omega)]; rfl
  rw [dfi h6, decide_eq_true (by omega)]
  have := g11 p (by omega) (ls p.Code).length 0 (by omega)
  simpa using this
/-- Has it a back-reference? -/
def hb (l : List T52) : Bool := l.any fun x => x.Kind == 9
theorem g60 (s : Sl T52) (hn : (ls s).length < 100000) : ∀ (k i : Nat), i + k = (ls s).length → ∃ r : Int, G60 (.p1 s ((ls s).length : Int) (i : Int)) = some r ∧ decide (r ≥ 0) = hb ((ls s).drop i)
  | 0, i, h => by
    rw [G60.eq_1, dfi (by omega), List.drop_of_length_le (by omega)]; exact ⟨_, rfl, rfl⟩
  | k + 1, i, h => by
    obtain ⟨x, hx⟩ := get_ex (ls s) (i := i) (by omega)
    obtain ⟨r, h1, h2⟩ := g60 s hn k (i + 1) (by omega)
    rw [G60.eq_1, dti (by omega), ixs hx, sm, F56, sm, drop_cons hx]
    by_cases e : x.Kind = 9
    · rw [if_pos (by simp [e])]
      exact ⟨_, rfl, by simp [hb, e]⟩
    · rw [if_neg (by simp [e]), wn1 i (by omega), h1]
      exact ⟨_, rfl, by rw [h2]; simp [hb, e]⟩
theorem f42 (p : T34) (hn : (ls p.Code).length < 100000) : F42 p = some (hb (ls p.Code)) := by
  unfold F42 F55 F60
  obtain ⟨r, h1, h2⟩ := g60 p.Code hn (ls p.Code).length 0 (by omega)
  have h1' : G60 (.p1 p.Code ((ls p.Code).length : Int) 0) = some r := h1
  rw [h1', sm, sm, h2]; rfl
theorem rp_len {p : T34} (h : rp p = true) : 1 ≤ (ls p.Code).length ∧ (ls p.Code).length ≤ 16384 := by
  simp only [rp, Bool.and_eq_true, decide_eq_true_eq] at h
  exact ⟨h.1.2.2.2.2.1, h.1.2.2.2.2.2⟩
/-- The fault of a program. -/
def flt (p : T34) : Int := if rp p = true then (if hb (ls p.Code) = true then 101 else 0) else 100
theorem f32 (p : T34) : F32 p = some (flt p) := by
  unfold F32 flt
  rw [f11, sm, bite]
  by_cases h : rp p = true
  · have := rp_len h
    rw [if_pos h, if_pos h, f42 p (by omega), sm]
    cases hb (ls p.Code) <;> rfl
  · rw [if_neg h, if_neg h]
/-- What is known of a right program's instructions. -/
theorem fits_at (p : T34) : ∀ (l : List T52) (k i : Nat) (x : T52), fits p k l = true → l[i]? = some x → fit p x = true ∧ (x.Kind = 12 ↔ k + i + 1 = (ls p.Code).length)
  | [], k, i, x, _, h => by simp at h
  | y :: l, k, 0, x, hf, h => by
    simp at h
    subst h
    simp only [fits, Bool.and_eq_true, beq_iff_eq] at hf
    refine ⟨hf.1.1, ?_⟩
    have := hf.1.2
    rw [Bool.eq_iff_iff, decide_eq_true_eq, beq_iff_eq] at this
    simpa using this
  | y :: l, k, i + 1, x, hf, h => by
    simp only [fits, Bool.and_eq_true] at hf
    have := fits_at p l (k + 1) i x hf.2 (by simpa using h)
    rw [show k + (i + 1) + 1 = k + 1 + i + 1 by omega]
    exact this
theorem rp_at {p : T34} (h : rp p = true) {i : Nat} {x : T52} (hx : (ls p.Code)[i]? = some x) : fit p x = true ∧ (x.Kind = 12 ↔ i + 1 = (ls p.Code).length) := by
  simp only [rp, Bool.and_eq_true] at h
  have := fits_at p _ 0 i x h.2 hx
  simpa using this
end Go.Proofs.Ytjbafmnocopofaa
end
section
/-
  Nfa: which instructions a run comes to without a further byte.
-/

namespace Go.Proofs.Ytjbafmnocopofaa
open Go AW
set_option linter.unusedVariables false
set_option linter.unusedSimpArgs false
set_option maxHeartbeats 4000000
theorem nat_of {z : Int} (h : 0 ≤ z) : ∃ n : Nat, z = n := ⟨z.toNat, by omega⟩
theorem nodup_len : ∀ (N : Nat) (L : List Nat), L.Nodup → (∀ x ∈ L, x < N) → L.length ≤ N
  | 0, L, _, h => by
    cases L with
    | nil => simp
    | cons a l => exact absurd (h a (by simp)) (by omega)
  | N + 1, L, hn, h => by
    by_cases hm : N ∈ L
    · have h1 := nodup_len N (L.erase N) (hn.erase N) (fun x hx => by
        have := (List.Nodup.mem_erase_iff hn).1 hx
        have := h x this.2
        omega)
      have := List.length_erase_of_mem hm
      omega
    · have := nodup_len N L hn (fun x hx => by
        have := h x hx
        have : x ≠ N := fun e => hm (e ▸ hx)
        omega)
      omega
/-- An instruction added to those that are known. -/
def addN (L : List Nat) (i : Nat) : List Nat := if i ∈ L then L else L ++ [i]
theorem mem_addN (L : List Nat) (i j : Nat) : j ∈ addN L i ↔ j ∈ L ∨ j = i := by
  unfold addN
  split
  · constructor
    · exact .inl
    · rintro (h | rfl) <;> assumption
  · simp
theorem addN_pre (L : List Nat) (i : Nat) : L <+: addN L i := by
  unfold addN
  split
  · exact List.prefix_refl _
  · exact List.prefix_append _ _
theorem addsN_pre (l : List Nat) : ∀ L : List Nat, L <+: l.foldl addN L := by
  induction l with
  | nil => exact fun L => List.prefix_refl _
  | cons a l ih => exact fun L => (addN_pre L a).trans (ih _)
theorem mem_addsN (l : List Nat) : ∀ (L : List Nat) (j : Nat), j ∈ l.foldl addN L ↔ j ∈ L ∨ j ∈ l := by
  induction l with
  | nil => simp
  | cons a l ih => intro L j; simp only [List.foldl_cons, ih, mem_addN, List.mem_cons, or_assoc]
def ints (L : List Nat) : List Int := L.map fun (n : Nat) => (n : Int)
/-- Known instructions and their marks. -/
structure Mk (N : Nat) (s : T92) (L : List Nat) : Prop where
  len : ∃ b, s.in_ = some b ∧ b.length = N ∧ ∀ j, j < N → b[j]? = some (decide (j ∈ L))
  lst : s.list = so (ints L)
  nd : L.Nodup
  lt : ∀ j ∈ L, j < N
theorem f58 {N : Nat} {s : T92} {L : List Nat} (hN : N ≤ 20000) (h : Mk N s L) (i : Nat) (hi : i < N) : ∃ b s', F58 s (i : Int) = some (b, s') ∧ Mk N s' (addN L i) := by
  obtain ⟨⟨b, e, hl, hb⟩, hs, hn, hlt⟩ := h
  have hix : ix (ls s.in_) (i : Int) = some (decide (i ∈ L)) := by rw [e]; exact ixs (hb i hi)
  unfold F58 addN
  rw [hix, sm]
  by_cases hm : i ∈ L
  · rw [dti hm, if_pos hm]
    exact ⟨_, _, rfl, ⟨b, e, hl, hb⟩, hs, hn, hlt⟩
  · have hL := nodup_len N L hn hlt
    rw [dfi hm, sm, if_neg hm, hs, ls_so, if_pos (by simp [ints, ls]; omega)]
    refine ⟨_, _, rfl, ⟨b.set i true, by simp [e, vset], by simp [hl], fun j hj => ?_⟩, ?_, ?_, ?_⟩
    · rw [List.getElem?_set]
      by_cases hij : i = j
      · subst hij; simp [hl, hj]
      · have h2 : decide (j ∈ L) = decide (j ∈ L ++ [i]) := by
          congr 1; apply propext; simp; intro h; exact absurd h.symm hij
        rw [if_neg hij, hb j hj, h2]
    · show sapp (so (ints L)) _ = _
      rw [sapp_so]
      simp [ints, ls]
    · rw [List.nodup_append]
      exact ⟨hn, by simp, by simp; rintro a ha rfl; exact hm ha⟩
    · intro j hj
      rcases List.mem_append.1 hj with h | h
      · exact hlt j h
      · simp at h; omega
/-- To which instructions one goes on without a byte. -/
def eps (C : List T52) (len q i : Nat) : List Nat :=
  match C[i]? with
  | none => []
  | some x =>
    if x.Kind = 1 then [] else if x.Kind = 12 then [] else if x.Kind = 2 then [i + 1, x.To.toNat] else if x.Kind = 3 then [x.To.toNat]
    else if x.Kind = 10 then (if q = 0 then [i + 1] else []) else if x.Kind = 11 then (if q = len then [i + 1] else []) else [i + 1]
theorem fit_to {p : T34} {x : T52} (h : fit p x = true) (hk : x.Kind = 2 ∨ x.Kind = 3) : 0 ≤ x.To ∧ x.To < ((ls p.Code).length : Int) := by
  unfold fit at h
  have h1 : x.Kind ≠ 1 := by omega
  simp only [h1, if_false, hk, if_true, Bool.and_eq_true, decide_eq_true_eq] at h
  exact h.2
theorem eps_lt {p : T34} (hr : rp p = true) {len q i j : Nat} (h : j ∈ eps (ls p.Code) len q i) : j < (ls p.Code).length := by
  unfold eps at h
  split at h
  · simp at h
  · rename_i x hx
    obtain ⟨hf, hl⟩ := rp_at hr hx
    have hi := ge_lt hx
    have hne : x.Kind ≠ 12 → i + 1 < (ls p.Code).length := fun h => by
      have : i + 1 ≠ (ls p.Code).length := fun e => h (hl.2 e)
      omega
    split at h
    · simp at h
    split at h
    · simp at h
    rename_i h12
    have := hne h12
    split at h
    · rename_i h2
      have := fit_to hf (.inl h2)
      simp at h
      omega
    split at h
    · rename_i h3
      have := fit_to hf (.inr h3)
      simp at h
      omega
    split at h
    · split at h <;> simp at h; omega
    split at h
    · split at h <;> simp at h; omega
    · simp at h; omega
variable {σ : Type}
theorem g57_step {p : T34} (hr : rp p = true) {Y : Int → σ → Option (Bool × σ)} {q : Nat} {text : Str} {s : T92} {L : List Nat} (hm : Mk (ls p.Code).length s L) {k i : Nat} (hk : L[k]? = some i) {z z' : σ} (hY : Y (i : Int) z = some (true, z')) :
    ∃ s', G57 Y (.p2 p (q : Int) text (k : Int) z s) = G57 Y (.p2 p (q : Int) text ((k + 1 : Nat) : Int) z' s') ∧ Mk (ls p.Code).length s' ((eps (ls p.Code) text.length q i).foldl addN L) := by
  have hlen := rp_len hr
  have hL := nodup_len _ L hm.nd hm.lt
  have hkl := ge_lt hk
  have hi := hm.lt i (List.mem_of_getElem? hk)
  obtain ⟨x, hx⟩ := get_ex (ls p.Code) hi
  have hix : ix (ls s.list) (k : Int) = some (i : Int) := by rw [hm.lst, ls_so]; exact ixs (by simp [ints, hk])
  have e1 : ∀ s' : T92, G57 Y (.p2 p (q : Int) text (IntKind.wrap .i64 ((k : Int) + 1)) z' s') = G57 Y (.p2 p (q : Int) text ((k + 1 : Nat) : Int) z' s') := fun s' => by rw [wn1 k (by omega)]
  have e2 : IntKind.wrap .i64 ((i : Int) + 1) = ((i + 1 : Nat) : Int) := wn1 i (by omega)
  have he := fun j => @eps_lt p hr text.length q i j
  rw [G57.eq_2, dti (by rw [hm.lst, ls_so]; simp [ints]; omega), hix, sm, hY, sm, if_neg (by simp), ixs hx, sm]
  simp only [e1, e2]
  unfold eps at he ⊢
  simp only [hx] at he ⊢
  by_cases h1 : x.Kind = 1
  · rw [eti h1, if_pos h1]; exact ⟨s, rfl, hm⟩
  rw [efi h1, if_neg h1]
  rw [if_neg h1] at he
  by_cases h12 : x.Kind = 12
  · rw [eti h12, if_pos h12]; exact ⟨s, rfl, hm⟩
  rw [efi h12, if_neg h12]
  rw [if_neg h12] at he
  by_cases h2 : x.Kind = 2
  · rw [eti h2, if_pos h2]
    rw [if_pos h2] at he
    obtain ⟨b1, s1, f1, m1⟩ := f58 (by omega) hm (i + 1) (he _ (by simp))
    obtain ⟨t, ht⟩ := nat_of (fit_to (rp_at hr hx).1 (.inl h2)).1
    obtain ⟨b2, s2, f2, m2⟩ := f58 (by omega) m1 t (he _ (by simp [ht]))
    rw [f1, sm, ht, f2, sm]
    exact ⟨s2, rfl, by simpa [ht] using m2⟩
  rw [efi h2, if_neg h2]
  rw [if_neg h2] at he
  by_cases h3 : x.Kind = 3
  · rw [eti h3, if_pos h3]
    rw [if_pos h3] at he
    obtain ⟨t, ht⟩ := nat_of (fit_to (rp_at hr hx).1 (.inr h3)).1
    obtain ⟨b2, s2, f2, m2⟩ := f58 (by omega) hm t (he _ (by simp [ht]))
    rw [ht, f2, sm]
    exact ⟨s2, rfl, by simpa [ht] using m2⟩
  rw [efi h3, if_neg h3]
  rw [if_neg h3] at he
  by_cases h10 : x.Kind = 10
  · rw [eti h10, if_pos h10]
    rw [if_pos h10] at he
    by_cases hq : q = 0
    · rw [if_pos hq] at he ⊢
      obtain ⟨b1, s1, f1, m1⟩ := f58 (by omega) hm (i + 1) (he _ (by simp))
      rw [eti (by omega), f1, sm]
      exact ⟨s1, rfl, m1⟩
    · rw [if_neg hq, efi (by omega)]; exact ⟨s, rfl, hm⟩
  rw [efi h10, if_neg h10]
  rw [if_neg h10] at he
  by_cases h11 : x.Kind = 11
  · rw [eti h11, if_pos h11]
    rw [if_pos h11] at he
    by_cases hq : q = text.length
    · rw [if_pos hq] at he ⊢
      obtain ⟨b1, s1, f1, m1⟩ := f58 (by omega) hm (i + 1) (he _ (by simp))
      rw [eti (by omega), f1, sm]
      exact ⟨s1, rfl, m1⟩
    · rw [if_neg hq, efi (by omega)]; exact ⟨s, rfl, hm⟩
  rw [efi h11, if_neg h11]
  rw [if_neg h11] at he
  obtain ⟨b1, s1, f1, m1⟩ := f58 (by omega) hm (i + 1) (he _ (by simp))
  rw [f1, sm]
  exact ⟨s1, rfl, m1⟩
/-- What is reached from some instructions. -/
inductive Rch (C : List T52) (len q : Nat) (B : Nat → Prop) : Nat → Prop
  | base {j : Nat} : B j → Rch C len q B j
  | step {i j : Nat} : Rch C len q B i → j ∈ eps C len q i → Rch C len q B j
theorem g57_2 {p : T34} (hr : rp p = true) {Y : Int → σ → Option (Bool × σ)} {y : Nat → σ → σ} {P : Nat → σ → Prop} (hY : ∀ k i z, k < (ls p.Code).length → i < (ls p.Code).length → P k z → Y (i : Int) z = some (true, y i z) ∧ P (k + 1) (y i z)) {q : Nat} {text : Str} {B : Nat → Prop} :
    ∀ (m k : Nat) (L : List Nat) (s : T92) (z : σ), m + k = (ls p.Code).length → Mk (ls p.Code).length s L → k ≤ L.length → P k z → (∀ j ∈ L, Rch (ls p.Code) text.length q B j) → (∀ j, B j → j ∈ L) → (∀ t i, t < k → L[t]? = some i → ∀ j ∈ eps (ls p.Code) text.length q i, j ∈ L) →
    ∃ Lf, L <+: Lf ∧ Lf.Nodup ∧ (∀ j, j ∈ Lf ↔ Rch (ls p.Code) text.length q B j) ∧ G57 Y (.p2 p (q : Int) text (k : Int) z s) = some ((Lf.drop k).foldl (fun z i => y i z) z) ∧ P Lf.length ((Lf.drop k).foldl (fun z i => y i z) z) := by
  have hlen := rp_len hr
  have done : ∀ (k : Nat) (L : List Nat) (s : T92) (z : σ), Mk (ls p.Code).length s L → k = L.length → P k z → (∀ j ∈ L, Rch (ls p.Code) text.length q B j) → (∀ j, B j → j ∈ L) → (∀ t i, t < k → L[t]? = some i → ∀ j ∈ eps (ls p.Code) text.length q i, j ∈ L) →
    ∃ Lf, L <+: Lf ∧ Lf.Nodup ∧ (∀ j, j ∈ Lf ↔ Rch (ls p.Code) text.length q B j) ∧ G57 Y (.p2 p (q : Int) text (k : Int) z s) = some ((Lf.drop k).foldl (fun z i => y i z) z) ∧ P Lf.length ((Lf.drop k).foldl (fun z i => y i z) z) := by
    intro k L s z hm hk hP h1 h2 h3
    refine ⟨L, List.prefix_refl _, hm.nd, fun j => ⟨h1 j, fun h => ?_⟩, ?_, ?_⟩
    · induction h with
      | base h => exact h2 _ h
      | step h e ih =>
        obtain ⟨t, ht⟩ := List.getElem?_of_mem ih
        exact h3 t _ (by have := ge_lt ht; omega) ht _ e
    · rw [G57.eq_2, dfi (by rw [hm.lst, ls_so]; simp [ints]; omega), List.drop_of_length_le (by omega)]; rfl
    · rw [List.drop_of_length_le (by omega)]; exact hk ▸ hP
  intro m
  induction m with
  | zero =>
    intro k L s z hmk hm hk hP h1 h2 h3
    have := nodup_len _ L hm.nd hm.lt
    exact done k L s z hm (by omega) hP h1 h2 h3
  | succ m ih =>
    intro k L s z hmk hm hk hP h1 h2 h3
    by_cases hkl : k = L.length
    · exact done k L s z hm hkl hP h1 h2 h3
    · obtain ⟨i, hi⟩ := get_ex L (i := k) (by omega)
      have hil := hm.lt i (List.mem_of_getElem? hi)
      have hLl := nodup_len _ L hm.nd hm.lt
      obtain ⟨y1, y2⟩ := hY k i z (by omega) hil hP
      obtain ⟨s', e, hm'⟩ := g57_step hr (q := q) (text := text) hm hi y1
      have hpre := addsN_pre (eps (ls p.Code) text.length q i) L
      have hll := hpre.length_le
      obtain ⟨Lf, l1, l2, l3, l4, l5⟩ := ih (k + 1) _ s' _ (by omega) hm' (by omega) y2
        (fun j hj => by
          rcases (mem_addsN _ _ _).1 hj with h | h
          · exact h1 j h
          · exact .step (h1 i (List.mem_of_getElem? hi)) h)
        (fun j hj => (mem_addsN _ _ _).2 (.inl (h2 j hj)))
        (fun t i' ht hti j hj => by
          rw [mem_addsN]
          have hL : L[t]? = some i' := by
            obtain ⟨r, hr⟩ := hpre
            rw [← hr, List.getElem?_append_left (by omega)] at hti
            exact hti
          by_cases htk : t = k
          · subst htk
            rw [hi] at hL; cases hL
            exact .inr hj
          · exact .inl (h3 t i' (by omega) hL j hj))
      have hf : Lf.drop k = i :: Lf.drop (k + 1) := by
        apply drop_cons
        obtain ⟨r, hr⟩ := hpre.trans l1
        rw [← hr, List.getElem?_append_left (by omega)]
        exact hi
      refine ⟨Lf, hpre.trans l1, l2, l3, ?_, ?_⟩
      · rw [e, l4, hf]; rfl
      · rw [hf]; exact l5
theorem g57_1 {p : T34} (hr : rp p = true) {Y : Int → σ → Option (Bool × σ)} {q : Nat} {text : Str} (A : List Nat) (hA : ∀ a ∈ A, a < (ls p.Code).length) (hAl : A.length ≤ 100000000) (z : σ) :
    ∀ (m t : Nat) (L : List Nat) (s : T92), m + t = A.length → Mk (ls p.Code).length s L → (∀ j, j ∈ L ↔ j ∈ A.take t) →
    ∃ s' L', Mk (ls p.Code).length s' L' ∧ (∀ j, j ∈ L' ↔ j ∈ A) ∧ G57 Y (.p1 p (q : Int) text (so (ints A)) (A.length : Int) (t : Int) z s) = G57 Y (.p2 p (q : Int) text 0 z s')
  | 0, t, L, s, h, hm, hj => by
    rw [G57.eq_1, dfi (by omega)]
    exact ⟨s, L, hm, fun j => by rw [hj, List.take_of_length_le (by omega)], rfl⟩
  | m + 1, t, L, s, h, hm, hj => by
    have hlen := rp_len hr
    obtain ⟨a, ha⟩ := get_ex A (i := t) (by omega)
    obtain ⟨b, s1, f1, m1⟩ := f58 (by omega) hm a (hA a (List.mem_of_getElem? ha))
    rw [G57.eq_1, dti (by omega), ls_so, ixs (c := (a : Int)) (by simp [ints, ha]), sm, f1, sm, wn1 t (by omega)]
    exact g57_1 hr A hA hAl z m (t + 1) _ s1 (by omega) m1 fun j => by rw [mem_addN, hj, take_snoc ha]; simp
theorem f57 {p : T34} (hr : rp p = true) {Y : Int → σ → Option (Bool × σ)} {y : Nat → σ → σ} {P : Nat → σ → Prop} (hY : ∀ k i z, k < (ls p.Code).length → i < (ls p.Code).length → P k z → Y (i : Int) z = some (true, y i z) ∧ P (k + 1) (y i z)) (q : Nat) (text : Str) (A : List Nat) (hA : ∀ a ∈ A, a < (ls p.Code).length) (hAl : A.length ≤ 100000000) (z : σ) (hP : P 0 z) :
    ∃ Lf : List Nat, Lf.Nodup ∧ (∀ j, j ∈ Lf ↔ Rch (ls p.Code) text.length q (· ∈ A) j) ∧ F57 Y p (so (ints A)) (q : Int) text z = some (Lf.foldl (fun z i => y i z) z) ∧ P Lf.length (Lf.foldl (fun z i => y i z) z) := by
  have hlen := rp_len hr
  unfold F57
  rw [if_pos (by omega)]
  have hm : Mk (ls p.Code).length { in_ := some (List.replicate (Int.toNat ((ls p.Code).length : Int)) false), list := none } [] := by
    refine ⟨⟨_, rfl, by simp, fun j hj => by simp [List.getElem?_replicate, hj]⟩, rfl, by simp, by simp⟩
  obtain ⟨s', L', m', h1, h2⟩ := g57_1 hr (Y := Y) (q := q) (text := text) A hA hAl z A.length 0 [] _ (by omega) hm (by simp)
  have h2' : G57 Y (.p1 p (q : Int) text (so (ints A)) ((ls (so (ints A))).length : Int) 0 z { in_ := some (List.replicate (Int.toNat ((ls p.Code).length : Int)) false), list := none }) = G57 Y (.p2 p (q : Int) text 0 z s') := by
    rw [ls_so, show (ints A).length = A.length by simp [ints]]; exact h2
  rw [h2']
  obtain ⟨Lf, l1, l2, l3, l4, l5⟩ := g57_2 hr hY (q := q) (text := text) (B := (· ∈ A)) (ls p.Code).length 0 L' s' z (by omega) m' (by omega) hP (fun j hj => .base ((h1 j).1 hj)) (fun j hj => (h1 j).2 hj) (fun t i ht => by omega)
  exact ⟨Lf, l2, l3, by simpa using l4, by simpa using l5⟩
end Go.Proofs.Ytjbafmnocopofaa
end
section
/-
  Nfa: where a match that begins at a place may end.
-/

namespace Go.Proofs.Ytjbafmnocopofaa
open Go AW
set_option linter.unusedVariables false
set_option linter.unusedSimpArgs false
set_option maxHeartbeats 4000000
theorem div64 : ∀ n : Fin 256, IntKind.wrap .u8 (Int.tdiv (n.val : Int) 64) = ((n.val / 64 : Nat) : Int) ∧ Int.tmod (n.val : Int) 64 = ((n.val % 64 : Nat) : Int) := by decide +kernel
/-- Is a byte in a set? -/
def hasB (s : Arr 4 Int) (b : UInt8) : Bool := andI .u64 (shrI .u64 (s.l.getD (b.toNat / 64) 0) ((b.toNat % 64 : Nat) : Int)) 1 == 1
theorem f44 (s : Arr 4 Int) (b : UInt8) : F44 s (b.toNat : Int) = some (hasB s b) := by
  have hb : b.toNat < 256 := b.toNat_lt
  obtain ⟨h1, h2⟩ := div64 ⟨b.toNat, hb⟩
  simp only at h1 h2
  have hl := s.h
  obtain ⟨v, hv⟩ := get_ex s.l (i := b.toNat / 64) (by omega)
  unfold F44 hasB
  rw [h1, h2, if_pos (by omega), ixs hv, sm, if_pos (by omega)]
  simp [List.getD, hv]
/-- Where a run may stand: at a place, at an instruction. -/
inductive Cf (C : List T52) (s : Str) (fr : Nat) : Nat → Nat → Prop
  | start : Cf C s fr fr 0
  | eps {q i j : Nat} : Cf C s fr q i → j ∈ eps C s.length q i → Cf C s fr q j
  | chr {q i : Nat} {x : T52} {b : UInt8} : Cf C s fr q i → C[i]? = some x → x.Kind = 1 → s[q]? = some b → hasB x.Set b = true → Cf C s fr (q + 1) (i + 1)
def Base (C : List T52) (s : Str) (fr q j : Nat) : Prop := (q = fr ∧ j = 0) ∨ ∃ q' i x b, q = q' + 1 ∧ j = i + 1 ∧ Cf C s fr q' i ∧ C[i]? = some x ∧ x.Kind = 1 ∧ s[q']? = some b ∧ hasB x.Set b = true
theorem cf_rch {C : List T52} {s : Str} {fr q j : Nat} : Cf C s fr q j ↔ Rch C s.length q (Base C s fr q) j := by
  constructor
  · intro h
    induction h with
    | start => exact .base (.inl ⟨rfl, rfl⟩)
    | eps _ e ih => exact .step ih e
    | chr h h1 h2 h3 h4 _ => exact .base (.inr ⟨_, _, _, _, rfl, rfl, h, h1, h2, h3, h4⟩)
  · intro h
    induction h with
    | base h =>
      rcases h with ⟨rfl, rfl⟩ | ⟨q', i, x, b, rfl, rfl, h, h1, h2, h3, h4⟩
      · exact .start
      · exact .chr h h1 h2 h3 h4
    | step _ e ih => exact .eps ih e
open Classical in
/-- May a match end there? -/
noncomputable def acc (C : List T52) (s : Str) (fr q : Nat) : Bool := decide (Cf C s fr q (C.length - 1))
noncomputable def endsF (C : List T52) (s : Str) (fr q : Nat) : List Int := ((List.range' q (s.length + 1 - q)).filter (acc C s fr)).map fun (n : Nat) => (n : Int)
theorem filter_one : ∀ {l : List Nat}, l.Nodup → ∀ a : Nat, l.filter (fun i => decide (i = a)) = if a ∈ l then [a] else []
  | [], _, a => by simp
  | x :: l, h, a => by
    rw [List.nodup_cons] at h
    have ih := filter_one h.2 a
    by_cases e : x = a
    · subst e
      rw [List.filter_cons_of_pos (by simp), ih, if_neg h.1, if_pos (by simp)]
    · rw [List.filter_cons_of_neg (by simp [e]), ih]
      have e' : a ≠ x := fun h => e h.symm
      simp [e']
def hit (C : List T52) (s : Str) (q i : Nat) : Bool := match C[i]?, s[q]? with
  | some x, some b => x.Kind == 1 && hasB x.Set b
  | _, _ => false
theorem hit_ne {C : List T52} {s : Str} {q i : Nat} {x : T52} (hx : C[i]? = some x) (h : x.Kind ≠ 1) : ¬ hit C s q i = true := by
  unfold hit
  have : (x.Kind == 1) = false := by simpa using h
  cases e : s[q]? <;> simp [hx, this]
theorem hit_no {C : List T52} {s : Str} {q i : Nat} (h : s.length ≤ q) : ¬ hit C s q i = true := by
  unfold hit
  have : s[q]? = none := by simp; omega
  cases e : C[i]? <;> simp [this]
theorem hit_is {C : List T52} {s : Str} {q i : Nat} {x : T52} {b : UInt8} (hx : C[i]? = some x) (h : x.Kind = 1) (hb : s[q]? = some b) : hit C s q i = hasB x.Set b := by
  simp [hit, hx, hb, h]
abbrev Zz := (Sl Int) × Int × (Sl Int) × Nat
def yst (N : Nat) (C : List T52) (s : Str) (q i : Nat) (z : Zz) : Zz :=
  (if i + 1 = N then sapp z.1 [(q : Int)] else z.1, z.2.1, if hit C s q i = true then sapp z.2.2.1 [((i + 1 : Nat) : Int)] else z.2.2.1, z.2.2.2)
structure Pz (q base k : Nat) (z : Zz) : Prop where
  f : z.2.2.2 = 0
  p : z.2.1 = (q : Int)
  o : (ls z.1).length ≤ base + k
  n : (ls z.2.2.1).length ≤ k
theorem b33 {p : T34} (hr : rp p = true) {s : Str} (hs : s.length ≤ 1000000000) {q base k : Nat} (hb : base ≤ 1000000000) (hk : k < (ls p.Code).length) {z : Zz} (hP : Pz q base k z) {i : Nat} (hi : i < (ls p.Code).length) (t6 now : Sl Int) (t24 : T34) (a2 : Sl Int) (a3 : Int) (a4 : Str) :
    B33_1 p s t6 now t24 a2 a3 a4 (i : Int) z = some (true, yst (ls p.Code).length (ls p.Code) s q i z) ∧ Pz q base (k + 1) (yst (ls p.Code).length (ls p.Code) s q i z) := by
  have hlen := rp_len hr
  obtain ⟨z1, z2, z3, z4⟩ := z
  obtain ⟨h1, h2, h3, h4⟩ := hP
  simp only at h1 h2 h3 h4
  subst h1; subst h2
  obtain ⟨x, hx⟩ := get_ex (ls p.Code) hi
  obtain ⟨hf, h12⟩ := rp_at hr hx
  have pz : ∀ (o n : Sl Int), (ls o).length ≤ (ls z1).length + 1 → (ls n).length ≤ (ls z3).length + 1 → Pz q base (k + 1) (o, (q : Int), n, 0) := fun o n h h' => ⟨rfl, rfl, by show (ls o).length ≤ _; omega, by show (ls n).length ≤ _; omega⟩
  unfold B33_1 yst
  simp only
  rw [if_pos trivial, ixs hx, sm]
  by_cases e : x.Kind = 12
  · have hN := h12.1 e
    have hh := hit_ne (s := s) (q := q) hx (show x.Kind ≠ 1 by omega)
    rw [eti e, if_pos (by simp [ls]; unfold ls at h3; omega), if_pos hN, if_neg hh]
    exact ⟨rfl, pz _ _ (by rw [ls_sapp]; simp) (by omega)⟩
  · have hN : i + 1 ≠ (ls p.Code).length := fun h => e (h12.2 h)
    rw [efi e, if_neg hN]
    by_cases e1 : x.Kind = 1
    · rw [eti e1]
      by_cases hq : q < s.length
      · obtain ⟨b, hb'⟩ := get_ex s hq
        rw [dti (by omega), ixs hb', sm, f44, sm, hit_is hx e1 hb']
        by_cases hh : hasB x.Set b = true
        · rw [if_pos hh, if_pos hh, if_pos (by simp [ls]; unfold ls at h4; omega), wn1 i (by omega)]
          exact ⟨rfl, pz _ _ (by omega) (by rw [ls_sapp]; simp)⟩
        · rw [if_neg hh, if_neg hh]
          exact ⟨rfl, pz _ _ (by omega) (by omega)⟩
      · rw [dfi (by omega), if_neg (hit_no (by omega))]
        exact ⟨rfl, pz _ _ (by omega) (by omega)⟩
    · rw [efi e1, if_neg (hit_ne hx e1)]
      exact ⟨rfl, pz _ _ (by omega) (by omega)⟩
theorem yfold (N : Nat) (C : List T52) (s : Str) (q : Nat) : ∀ (l : List Nat) (O : List Int) (pl : Int) (H : List Nat) (f : Nat),
    l.foldl (fun z i => yst N C s q i z) (so O, pl, so (ints H), f) = (so (O ++ (l.filter fun i => decide (i + 1 = N)).map fun _ => (q : Int)), pl, so (ints (H ++ (l.filter (hit C s q)).map (· + 1))), f)
  | [], O, pl, H, f => by simp
  | i :: l, O, pl, H, f => by
    have e : yst N C s q i (so O, pl, so (ints H), f) = (so (O ++ ([i].filter fun i => decide (i + 1 = N)).map fun _ => (q : Int)), pl, so (ints (H ++ ([i].filter (hit C s q)).map (· + 1))), f) := by
      unfold yst
      simp only
      by_cases h1 : i + 1 = N
      · by_cases h2 : hit C s q i = true
        · rw [if_pos h1, if_pos h2, sapp_so, sapp_so]; simp [h1, h2, ints]
        · rw [if_pos h1, if_neg h2, sapp_so]; simp [h1, h2, ints]
      · by_cases h2 : hit C s q i = true
        · rw [if_neg h1, if_pos h2, sapp_so]; simp [h1, h2, ints]
        · rw [if_neg h1, if_neg h2]; simp [h1, h2, ints]
    rw [List.foldl_cons, e, yfold N C s q l, List.append_assoc, List.append_assoc, ← List.map_append, ← List.map_append, ← List.filter_append, ← List.filter_append, List.singleton_append]
theorem no_cf {C : List T52} {s : Str} {fr q : Nat} (hq : fr ≤ q) (h : ∀ j, ¬ Base C s fr q j) (hf : fr < q) : ∀ q', q ≤ q' → ∀ j, ¬ Cf C s fr q' j := by
  have key : ∀ q' j, Cf C s fr q' j → q ≤ q' → False := by
    intro q' j hc
    induction hc with
    | start => intro h; omega
    | eps _ _ ih => exact ih
    | @chr q0 i0 x0 b0 hc h1 h2 h3 h4 ih =>
      intro hle
      by_cases e : q = q0 + 1
      · exact h (i0 + 1) (.inr ⟨q0, i0, x0, b0, e, rfl, hc, h1, h2, h3, h4⟩)
      · exact ih (by omega)
  exact fun q' hle j hc => key q' j hc hle
theorem endsF_nil {C : List T52} {s : Str} {fr q : Nat} (h : ∀ q', q ≤ q' → ∀ j, ¬ Cf C s fr q' j) : endsF C s fr q = [] := by
  unfold endsF
  rw [List.filter_eq_nil_iff.2, List.map_nil]
  intro a ha
  rw [List.mem_range'_1] at ha
  simp [acc, h a ha.1]
theorem g33 {p : T34} (hr : rp p = true) {s : Str} (hs : s.length ≤ 100000000) {fr : Nat} (hfr : fr ≤ s.length) (t6 : Sl Int) : ∀ (m q : Nat) (A : List Nat) (out : List Int), m + q = s.length + 1 → fr ≤ q → (∀ j, j ∈ A ↔ Base (ls p.Code) s fr q j) → A.length ≤ 100000 → out.length ≤ q →
    G33 (.p1 p s t6 (so (ints A)) (so out) (q : Int)) = some (so (out ++ endsF (ls p.Code) s fr q)) := by
  have hlen := rp_len hr
  have stop : ∀ (q : Nat) (out : List Int), fr ≤ q → (∀ j, ¬ Base (ls p.Code) s fr q j) → fr < q → G33 (.p1 p s t6 (so (ints [])) (so out) (q : Int)) = some (so (out ++ endsF (ls p.Code) s fr q)) := by
    intro q out h1 h2 h3
    rw [endsF_nil (no_cf h1 h2 h3), G33.eq_1, dfi (by simp [ls_so, ints]), List.append_nil]
  intro m
  induction m with
  | zero =>
    intro q A out hm hq hA hAl ho
    have hB : ∀ j, ¬ Base (ls p.Code) s fr q j := by
      rintro j (⟨rfl, _⟩ | ⟨q', i, x, b, rfl, _, _, _, _, hb, _⟩)
      · omega
      · have := ge_lt hb; omega
    have : A = [] := List.eq_nil_iff_forall_not_mem.2 fun j hj => hB j ((hA j).1 hj)
    subst this
    exact stop q out hq hB (by omega)
  | succ m ih =>
    intro q A out hm hq hA hAl ho
    by_cases hn : A = []
    · subst hn
      have hB : ∀ j, ¬ Base (ls p.Code) s fr q j := fun j h => by simpa using (hA j).2 h
      have : fr ≠ q := fun e => hB 0 (.inl ⟨e.symm, rfl⟩)
      exact stop q out hq hB (by omega)
    · have hApos : 0 < A.length := List.length_pos_iff.2 hn
      have hBlt : ∀ j, Base (ls p.Code) s fr q j → j < (ls p.Code).length := by
        rintro j (⟨_, rfl⟩ | ⟨q', i, x, b, rfl, rfl, _, hx, hk, hb, _⟩)
        · omega
        · have := ge_lt hx
          have : i + 1 ≠ (ls p.Code).length := fun e => by have := (rp_at hr hx).2.2 e; omega
          omega
      rw [G33.eq_1, dti (by rw [ls_so]; simp [ints]; omega)]
      unfold F43
      rw [sm, G33.eq_2]
      simp only
      obtain ⟨Lf, l1, l2, l3, l4⟩ := f57 hr (Y := B33_1 p s t6 (so (ints A)) p (so (ints A)) (q : Int) s) (y := yst (ls p.Code).length (ls p.Code) s q) (P := Pz q out.length) (fun k i z hk hi hP => b33 hr (by omega) (by omega) hk hP hi _ _ _ _ _ _) q s A (fun a ha => hBlt a ((hA a).1 ha)) (by omega) (so out, (q : Int), none, 0) ⟨rfl, rfl, by simp [ls_so], by simp [ls]⟩
      rw [l3, sm]
      have yf := yfold (ls p.Code).length (ls p.Code) s q Lf out (q : Int) [] 0
      have yf' : Lf.foldl (fun z i => yst (ls p.Code).length (ls p.Code) s q i z) (so out, (q : Int), none, 0) = _ := yf
      rw [yf', if_pos rfl]
      simp only [List.nil_append]
      rw [wn1 q (by omega)]
      have hcf : ∀ j, j ∈ Lf ↔ Cf (ls p.Code) s fr q j := fun j => by
        rw [l2, cf_rch]
        have : (fun j => j ∈ A) = Base (ls p.Code) s fr q := by funext j; exact propext (hA j)
        rw [this]
      have hLl := nodup_len _ Lf l1 (fun j hj => by
        have := (l2 j).1 hj
        cases this with
        | base h => exact hBlt j ((hA j).1 h)
        | step _ e => exact eps_lt hr e)
      have hfo : (Lf.filter fun i => decide (i + 1 = (ls p.Code).length)) = if (ls p.Code).length - 1 ∈ Lf then [(ls p.Code).length - 1] else [] := by
        rw [← filter_one l1]
        congr 1
        funext i
        congr 1
        apply propext
        omega
      have hend : endsF (ls p.Code) s fr q = ((Lf.filter fun i => decide (i + 1 = (ls p.Code).length)).map fun _ => (q : Int)) ++ endsF (ls p.Code) s fr (q + 1) := by
        unfold endsF
        rw [hfo, show s.length + 1 - q = (s.length + 1 - (q + 1)) + 1 by omega, List.range'_succ]
        by_cases h : (ls p.Code).length - 1 ∈ Lf
        · rw [if_pos h, List.filter_cons_of_pos (by simp [acc, ← hcf, h])]; rfl
        · rw [if_neg h, List.filter_cons_of_neg (by simp [acc, ← hcf, h])]; rfl
      rw [ih (q + 1) _ _ (by omega) (by omega) ?_ ?_ ?_, hend, List.append_assoc]
      · intro j
        rw [List.mem_map]
        constructor
        · rintro ⟨i, hi, rfl⟩
          rw [List.mem_filter, hcf] at hi
          obtain ⟨hc, hh⟩ := hi
          unfold hit at hh
          split at hh
          · rename_i x b hx hb
            simp only [Bool.and_eq_true, beq_iff_eq] at hh
            exact .inr ⟨q, i, x, b, rfl, rfl, hc, hx, hh.1, hb, hh.2⟩
          · simp at hh
        · rintro (⟨h, _⟩ | ⟨q', i, x, b, h, rfl, hc, hx, hk, hb, hh⟩)
          · omega
          · obtain rfl : q = q' := by omega
            refine ⟨i, ?_, rfl⟩
            rw [List.mem_filter, hcf]
            exact ⟨hc, by simp [hit, hx, hb, hk, hh]⟩
      · have := List.length_filter_le (hit (ls p.Code) s q) Lf
        simp; omega
      · rw [hfo]; split <;> simp <;> omega
theorem f33 {p : T34} (hr : rp p = true) {s : Str} (hs : s.length ≤ 100000000) {fr : Nat} (hfr : fr ≤ s.length) : F33 p s (fr : Int) = some (so (endsF (ls p.Code) s fr fr)) := by
  unfold F33
  have := g33 hr hs hfr none (s.length + 1 - fr) fr [0] [] (by omega) (by omega) (fun j => ?_) (by simp) (by simp)
  · rw [List.nil_append] at this; exact this
  · constructor
    · intro h; simp at h; exact .inl ⟨rfl, h⟩
    · rintro (⟨_, rfl⟩ | ⟨q', i, x, b, h, rfl, hc, _⟩)
      · simp
      · exfalso
        have : ∀ q j, Cf (ls p.Code) s fr q j → fr ≤ q := by
          intro q j h
          induction h with
          | start => omega
          | eps _ _ ih => exact ih
          | chr _ _ _ _ _ ih => omega
        have := this _ _ hc
        omega
end Go.Proofs.Ytjbafmnocopofaa
end
section
/-
  Nfa: Ends, Whole and Match.
-/

namespace Go.Proofs.Ytjbafmnocopofaa
open Go AW
set_option linter.unusedVariables false
set_option linter.unusedSimpArgs false
set_option maxHeartbeats 4000000
theorem nne {a b : Int} (h : a = b) : ¬ a ≠ b := fun k => k h
/-- The ends of the matches that begin at a place. -/
noncomputable def EN (p : T34) (s : Str) (i : Nat) : List Nat := (List.range' i (s.length + 1 - i)).filter (acc (ls p.Code) s i)
theorem f33' {p : T34} (hr : rp p = true) {s : Str} (hs : s.length ≤ 100000000) {i : Nat} (hi : i ≤ s.length) : F33 p s (i : Int) = some (so (ints (EN p s i))) := f33 hr hs hi
theorem en_mem {p : T34} {s : Str} {i j : Nat} (h : j ∈ EN p s i) : i ≤ j ∧ j ≤ s.length := by
  unfold EN at h
  rw [List.mem_filter, List.mem_range'_1] at h
  omega
theorem en_sorted (p : T34) (s : Str) (i : Nat) : (EN p s i).Pairwise (· < ·) := List.Pairwise.filter _ List.pairwise_lt_range'
theorem en_lt {p : T34} {s : Str} {i k a b : Nat} (h1 : (EN p s i)[k]? = some a) (h2 : (EN p s i)[k + 1]? = some b) : a < b := by
  have h := en_sorted p s i
  rw [List.getElem?_eq_some_iff] at h1 h2
  obtain ⟨k1, rfl⟩ := h1
  obtain ⟨k2, rfl⟩ := h2
  exact (List.pairwise_iff_getElem.1 h) k (k + 1) k1 k2 (by omega)
theorem en_len (p : T34) (s : Str) (i : Nat) : (EN p s i).length ≤ s.length + 1 := by
  have := List.length_filter_le (acc (ls p.Code) s i) (List.range' i (s.length + 1 - i))
  unfold EN
  simp at this
  omega
theorem flt_0 {p : T34} (h : flt p = 0) : rp p = true ∧ hb (ls p.Code) = false := by
  unfold flt at h
  split at h
  · rename_i h1
    split at h
    · simp at h
    · rename_i h2; exact ⟨h1, by simpa using h2⟩
  · simp at h
theorem f17 (p : T34) {s : Str} (hs : s.length ≤ 100000000) (fr : Int) : F17 p s fr = some (if flt p ≠ 0 then (none, flt p) else if fr < 0 ∨ (s.length : Int) < fr then (none, 2) else (so (ints (EN p s fr.toNat)), 0)) := by
  unfold F17
  rw [f32, sm]
  by_cases h : flt p = 0
  · rw [nfi h, if_neg (nne h)]
    by_cases h1 : fr < 0
    · rw [dti h1, if_pos (.inl h1)]
    · rw [dfi h1]
      by_cases h2 : (s.length : Int) < fr
      · rw [dti h2, if_pos (.inr h2)]
      · obtain ⟨n, rfl⟩ := nat_of (by omega : 0 ≤ fr)
        rw [dfi h2, if_neg (by omega), f33' (flt_0 h).1 hs (by omega), sm]; rfl
  · rw [nti h, if_pos h]
theorem mem_ints {l : List Nat} {n : Nat} : (n : Int) ∈ ints l ↔ n ∈ l := by
  unfold ints
  rw [List.mem_map]
  constructor
  · rintro ⟨m, h, e⟩
    have : m = n := by omega
    exact this ▸ h
  · exact fun h => ⟨n, h, rfl⟩
theorem g21 (t : T56) (l : List Int) (hl : l.length ≤ 1000000000) : ∀ (m k : Nat), m + k = l.length → G21 (.p1 t (so l) (l.length : Int) (k : Int)) = some (decide (t.To ∈ l.drop k), 0)
  | 0, k, h => by
    rw [G21.eq_1, dfi (by omega), List.drop_of_length_le (by omega)]; rfl
  | m + 1, k, h => by
    obtain ⟨x, hx⟩ := get_ex l (i := k) (by omega)
    rw [G21.eq_1, dti (by omega), ls_so, ixs hx, sm, drop_cons hx]
    by_cases e : x = t.To
    · rw [eti e]; simp [e]
    · rw [efi e, wn1 k (by omega), g21 t l hl m (k + 1) (by omega)]
      have e' : ¬ t.To = x := fun h => e h.symm
      simp [e']
theorem f21 (p : T34) {s : Str} (hs : s.length ≤ 100000000) (t : T56) : F21 p s t = some (if flt p ≠ 0 then (false, flt p) else if t.From < 0 ∨ t.To < t.From ∨ (s.length : Int) < t.To then (false, 2) else (decide (t.To ∈ ints (EN p s t.From.toNat)), 0)) := by
  unfold F21
  rw [f32, sm]
  by_cases h : flt p = 0
  · rw [nfi h, if_neg (nne h)]
    by_cases h1 : t.From < 0
    · rw [dti h1, if_pos (.inl h1)]
    rw [dfi h1]
    by_cases h2 : t.To < t.From
    · rw [dti h2, if_pos (.inr (.inl h2))]
    rw [dfi h2]
    by_cases h3 : t.To > (s.length : Int)
    · rw [dti h3, if_pos (.inr (.inr h3))]
    rw [dfi h3, if_neg (by omega)]
    obtain ⟨n, hn⟩ := nat_of (by omega : 0 ≤ t.From)
    have hl := en_len p s n
    rw [hn, f33' (flt_0 h).1 hs (by omega), sm, ls_so]
    have := g21 t (ints (EN p s n)) (by simp [ints]; omega) (ints (EN p s n)).length 0 (by omega)
    have this' : G21 (.p1 t (so (ints (EN p s n))) ((ints (EN p s n)).length : Int) 0) = some (decide (t.To ∈ (ints (EN p s n)).drop 0), 0) := this
    rw [this', List.drop_zero]; rfl
  · rw [nti h, if_pos h]
/-- What Match says. -/
def Mt (p : T34) (s : Str) (i : Nat) (r : T56 × Bool × Int) : Prop :=
  (r = ({ From := 0, To := 0 }, false, 0) ∧ ∀ j, i ≤ j → j ≤ s.length → EN p s j = []) ∨
  ∃ (j a : Nat) (l : List Nat), i ≤ j ∧ j ≤ s.length ∧ r = ({ From := (j : Int), To := (a : Int) }, true, 0) ∧ EN p s j = l ++ [a] ∧ ∀ j', i ≤ j' → j' < j → EN p s j' = []
theorem g23 {p : T34} (hr : rp p = true) {s : Str} (hs : s.length ≤ 100000000) (t6 : T56) : ∀ (m i : Nat), m + i = s.length + 1 → ∃ r, G23 (.p2 s p (i : Int) t6) = some r ∧ Mt p s i r
  | 0, i, h => by
    rw [G23.eq_2, dfi (by omega)]
    exact ⟨_, rfl, .inl ⟨rfl, fun j h1 h2 => by omega⟩⟩
  | m + 1, i, h => by
    have hl := en_len p s i
    rw [G23.eq_2, dti (by omega), f33' hr hs (by omega), sm, ls_so, wn1 i (by omega)]
    by_cases e : EN p s i = []
    · rw [dfi (by simp [ints, e])]
      obtain ⟨r, h1, h2⟩ := g23 hr hs t6 m (i + 1) (by omega)
      refine ⟨r, h1, ?_⟩
      rcases h2 with ⟨h2, h3⟩ | ⟨j, a, l, h2, h3, h4, h5, h6⟩
      · refine .inl ⟨h2, fun j k1 k2 => ?_⟩
        by_cases k : j = i
        · exact k ▸ e
        · exact h3 j (by omega) k2
      · refine .inr ⟨j, a, l, by omega, h3, h4, h5, fun j' k1 k2 => ?_⟩
        by_cases k : j' = i
        · exact k ▸ e
        · exact h6 j' (by omega) k2
    · have hp : 0 < (EN p s i).length := List.length_pos_iff.2 e
      obtain ⟨l, a, hla⟩ : ∃ l a, EN p s i = l ++ [a] := ⟨_, _, (List.dropLast_concat_getLast e).symm⟩
      rw [dti (by simp [ints]; omega), show (ints (EN p s i)).length = (EN p s i).length by simp [ints], wm1 _ (by omega) (by omega), ixs (c := (a : Int)) (by simp [ints, hla]), sm]
      exact ⟨_, rfl, .inr ⟨i, a, l, by omega, by omega, rfl, hla, fun j' k1 k2 => by omega⟩⟩
theorem f23 (p : T34) {s : Str} (hs : s.length ≤ 100000000) (fr : Int) : ∃ r, F23 p s fr = some r ∧
    ((flt p ≠ 0 ∧ r = ({ From := 0, To := 0 }, false, flt p)) ∨ (flt p = 0 ∧ (fr < 0 ∨ (s.length : Int) < fr) ∧ r = ({ From := 0, To := 0 }, false, 2)) ∨ (flt p = 0 ∧ 0 ≤ fr ∧ fr ≤ (s.length : Int) ∧ Mt p s fr.toNat r)) := by
  unfold F23
  rw [f32, sm]
  by_cases h : flt p = 0
  · rw [nfi h]
    by_cases h1 : fr < 0
    · rw [dti h1, G23.eq_1]; exact ⟨_, rfl, .inr (.inl ⟨h, .inl h1, rfl⟩)⟩
    rw [dfi h1]
    by_cases h2 : fr > (s.length : Int)
    · rw [dti h2, G23.eq_1]; exact ⟨_, rfl, .inr (.inl ⟨h, .inr h2, rfl⟩)⟩
    rw [dfi h2]
    obtain ⟨n, rfl⟩ := nat_of (by omega : 0 ≤ fr)
    obtain ⟨r, e, hr⟩ := g23 (flt_0 h).1 hs { From := 0, To := 0 } (s.length + 1 - n) n (by omega)
    exact ⟨r, e, .inr (.inr ⟨h, by omega, by omega, hr⟩)⟩
  · rw [nti h]; exact ⟨_, rfl, .inl ⟨h, rfl⟩⟩
end Go.Proofs.Ytjbafmnocopofaa
end
section
/-
  Nfa: trees: their nodes counted, walked, checked.
-/


namespace Go.Proofs.Ytjbafmnocopofaa
open Go AW
set_option linter.unusedVariables false
set_option linter.unusedSimpArgs false
set_option maxHeartbeats 4000000
mutual
def cnt : T27 → Nat
  | ⟨_, _, _, _, _, o⟩ => cnto o + 1
def cnto : Option (List T27) → Nat
  | none => 0
  | some l => cntl l
def cntl : List T27 → Nat
  | [] => 0
  | x :: l => cnt x + cntl l
end
theorem cnt_eq (n : T27) : cnt n = cntl (ls n.Kids) + 1 := by
  obtain ⟨_, _, _, _, _, o⟩ := n
  rw [cnt]
  cases o with
  | none => rfl
  | some l => rfl
theorem cnt_mem : ∀ {l : List T27} {k : T27}, k ∈ l → cnt k ≤ cntl l
  | [], k, h => by simp at h
  | x :: l, k, h => by
    rw [cntl]
    rcases List.mem_cons.1 h with rfl | h
    · omega
    · have := cnt_mem h; omega
theorem cnt_kid {n k : T27} (h : k ∈ ls n.Kids) : cnt k < cnt n := by
  have := cnt_mem h
  rw [cnt_eq n]; omega
theorem cnt_pos (n : T27) : 1 ≤ cnt n := by rw [cnt_eq]; omega
theorem cntl_len : ∀ l : List T27, l.length ≤ cntl l
  | [] => by simp
  | x :: l => by have := cntl_len l; have := cnt_pos x; rw [cntl, List.length_cons]; omega
theorem tree_ind {P : T27 → Prop} (h : ∀ n, (∀ k ∈ ls n.Kids, P k) → P n) : ∀ n, P n := by
  have key : ∀ (m : Nat) (n : T27), cnt n ≤ m → P n := by
    intro m
    induction m with
    | zero => intro n hn; have := cnt_pos n; omega
    | succ m ih => exact fun n hn => h n fun k hk => ih k (by have := cnt_kid hk; omega)
  exact fun n => key _ n (Nat.le_refl _)
theorem cntl_drop {l : List T27} {i : Nat} {k : T27} (h : l[i]? = some k) : cntl (l.drop i) = cnt k + cntl (l.drop (i + 1)) := by rw [drop_cons h, cntl]
theorem cntl_drop_le (l : List T27) (i : Nat) : cntl (l.drop i) ≤ cntl l := by
  induction l generalizing i with
  | nil => simp
  | cons x l ih =>
    cases i with
    | zero => simp
    | succ i => have := ih i; rw [List.drop_succ_cons, cntl]; omega

/-! ### Each node in order, counted -/
abbrev Cz := Int × Int × Nat
def cres (t : Int) (c m : Nat) : Bool × Cz := if c + m ≤ 8192 then (true, (t, ((c + m : Nat) : Int), 0)) else (false, (3, 8193, 1))
theorem b12 (a b x : T27) (t : Int) (c : Nat) (hc : c ≤ 8192) : B12_1 a b x (t, (c : Int), 0) = some (cres t c 1) := by
  unfold B12_1 cres
  simp only
  rw [if_pos trivial, wn1 c (by omega)]
  by_cases h : c + 1 ≤ 8192
  · rw [dfi (by omega), if_pos h]
  · have : c = 8192 := by omega
    subst this
    rw [dti (by omega), if_neg (by omega)]; rfl
theorem g41_1 (a b : T27) (n : T27) (hn : ∀ k ∈ ls n.Kids, ∀ (t : Int) (c : Nat), c ≤ 8192 → G41 (B12_1 a b) (.e k (t, (c : Int), 0)) = some (cres t c (cnt k))) (t : Int) :
    ∀ (m i c : Nat), m + i = (ls n.Kids).length → i ≤ c → c ≤ 8192 → G41 (B12_1 a b) (.p1 n ((ls n.Kids).length : Int) (i : Int) (t, (c : Int), 0)) = some (cres t c (cntl ((ls n.Kids).drop i)))
  | 0, i, c, h, hi, hc => by
    rw [G41.eq_2, dfi (by omega), List.drop_of_length_le (by omega), cres, cntl, if_pos (by omega), Nat.add_zero]
  | m + 1, i, c, h, hi, hc => by
    obtain ⟨k, hk⟩ := get_ex (ls n.Kids) (i := i) (by omega)
    have hp := cnt_pos k
    rw [G41.eq_2, dti (by omega), ixs hk, sm, hn k (List.mem_of_getElem? hk) t c hc, sm, cntl_drop hk]
    unfold cres
    by_cases h1 : c + cnt k ≤ 8192
    · rw [if_pos h1]
      simp only [Bool.not_true, Bool.false_eq_true, if_false]
      rw [wn1 i (by omega), g41_1 a b n hn t m (i + 1) (c + cnt k) (by omega) (by omega) h1]
      unfold cres
      rw [Nat.add_assoc]
    · rw [if_neg h1, if_neg (show ¬ c + (cnt k + cntl ((ls n.Kids).drop (i + 1))) ≤ 8192 by omega)]; rfl
theorem g41 (a b : T27) : ∀ (n : T27) (t : Int) (c : Nat), c ≤ 8192 → G41 (B12_1 a b) (.e n (t, (c : Int), 0)) = some (cres t c (cnt n)) := by
  intro n
  induction n using tree_ind with
  | h n ih =>
    intro t c hc
    rw [G41.eq_1, b12 a b n t c hc, sm, cnt_eq]
    unfold cres
    by_cases h1 : c + 1 ≤ 8192
    · rw [if_pos h1]
      simp only [Bool.not_true, Bool.false_eq_true, if_false]
      have := g41_1 a b n ih t (ls n.Kids).length 0 (c + 1) (by omega) (by omega) h1
      have this' : G41 (B12_1 a b) (.p1 n ((ls n.Kids).length : Int) 0 (t, ((c + 1 : Nat) : Int), 0)) = _ := this
      rw [this', List.drop_zero]
      unfold cres
      rw [Nat.add_assoc, Nat.add_comm 1]
    · rw [if_neg h1, if_neg (show ¬ c + (cntl (ls n.Kids) + 1) ≤ 8192 by omega)]; rfl
theorem f40 (a b n : T27) (t : Int) : F40 (B12_1 a b) n (t, 0, 0) = some (if cnt n ≤ 8192 then (t, (cnt n : Int), 0) else (3, 8193, 1)) := by
  unfold F40 F41
  have := g41 a b n t 0 (by omega)
  have this' : G41 (B12_1 a b) (.e n (t, 0, 0)) = _ := this
  rw [this', sm]
  unfold cres
  rw [Nat.zero_add]
  split <;> rfl

/-! ### What each kind must be -/
def pl (n : T27) : Bool :=
  (if n.Kind = 3 ∨ n.Kind = 4 then decide (2 ≤ (ls n.Kids).length)
   else if n.Kind = 5 then decide (0 ≤ n.Min ∧ n.Min ≤ 255 ∧ (n.Max = -1 ∨ n.Min ≤ n.Max ∧ n.Max ≤ 255)) && decide ((ls n.Kids).length = 1)
   else if n.Kind = 6 then decide ((ls n.Kids).length = 1)
   else if n.Kind = 1 ∨ n.Kind = 2 ∨ n.Kind = 7 ∨ n.Kind = 8 ∨ n.Kind = 9 then decide ((ls n.Kids).length = 0) else false) &&
  (decide (n.Kind = 2) || decide (n.Set = Arr.rep 4 0)) && (decide (n.Kind = 5) || decide (n.Min = 0 ∧ n.Max = 0)) && (decide (n.Kind = 6) || decide (n.Kind = 7) || decide (n.Group = 0))
theorem g31 (n : T27) (k w : Int) : G31 (.p1 n k w) = some (decide (k = w) && (decide (n.Kind = 2) || decide (n.Set = Arr.rep 4 0)) && (decide (n.Kind = 5) || decide (n.Min = 0 ∧ n.Max = 0)) && (decide (n.Kind = 6) || decide (n.Kind = 7) || decide (n.Group = 0))) := by
  have e : ∀ a b : Int, (a == b) = decide (a = b) := fun a b => by rw [Bool.eq_iff_iff]; simp
  rw [G31.eq_1]
  simp only [e]
  by_cases h1 : k = w <;> by_cases h2 : n.Kind = 2 <;> by_cases h3 : n.Set = Arr.rep 4 0 <;> by_cases h4 : n.Kind = 5 <;> by_cases h5 : n.Min = 0 <;> by_cases h6 : n.Max = 0 <;> by_cases h7 : n.Kind = 6 <;> by_cases h8 : n.Kind = 7 <;> simp [h1, h2, h3, h4, h5, h6, h7, h8] <;> omega
theorem nkinds (k : Int) : k = 1 ∨ k = 2 ∨ k = 3 ∨ k = 4 ∨ k = 5 ∨ k = 6 ∨ k = 7 ∨ k = 8 ∨ k = 9 ∨ (k ≠ 1 ∧ k ≠ 2 ∧ k ≠ 3 ∧ k ≠ 4 ∧ k ≠ 5 ∧ k ≠ 6 ∧ k ≠ 7 ∧ k ≠ 8 ∧ k ≠ 9) := by omega
theorem f31 (n : T27) : F31 n = some (pl n) := by
  unfold F31 pl
  simp only [g31]
  have e2 : decide (((ls n.Kids).length : Int) = if 2 > ((ls n.Kids).length : Int) then 2 else ((ls n.Kids).length : Int)) = decide (2 ≤ (ls n.Kids).length) := by
    rw [Bool.eq_iff_iff, decide_eq_true_eq, decide_eq_true_eq]; split <;> omega
  have e1 : decide (((ls n.Kids).length : Int) = 1) = decide ((ls n.Kids).length = 1) := by
    rw [Bool.eq_iff_iff, decide_eq_true_eq, decide_eq_true_eq]; omega
  have e0 : decide (((ls n.Kids).length : Int) = 0) = decide ((ls n.Kids).length = 0) := by
    rw [Bool.eq_iff_iff, decide_eq_true_eq, decide_eq_true_eq]; omega
  simp only [e2, e1, e0]
  rcases nkinds n.Kind with h | h | h | h | h | h | h | h | h | h
  case inr.inr.inr.inr.inl =>
    simp (config := {decide := true}) only [h, if_true, if_false]
    by_cases h1 : n.Min < 0
    · rw [dti h1, decide_eq_false (p := 0 ≤ n.Min ∧ _) (by omega)]; simp
    rw [dfi h1]
    by_cases h2 : n.Min > 255
    · rw [dti h2, decide_eq_false (p := 0 ≤ n.Min ∧ _) (by omega)]; simp
    rw [dfi h2]
    by_cases h3 : n.Max = -1
    · rw [nfi h3, decide_eq_true (p := 0 ≤ n.Min ∧ _) (by omega)]; simp
    rw [nti h3]
    by_cases h4 : n.Max < n.Min
    · rw [dti h4, decide_eq_false (p := 0 ≤ n.Min ∧ _) (by omega)]; simp
    rw [dfi h4]
    by_cases h5 : n.Max > 255
    · rw [dti h5, decide_eq_false (p := 0 ≤ n.Min ∧ _) (by omega)]; simp
    rw [dfi h5, decide_eq_true (p := 0 ≤ n.Min ∧ _) (by omega)]; simp
  case inr.inr.inr.inr.inr.inr.inr.inr.inr =>
    obtain ⟨a1, a2, a3, a4, a5, a6, a7, a8, a9⟩ := h
    have e1 : ∀ k : Int, n.Kind ≠ k → (n.Kind == k) = false := fun k h => by simpa using h
    simp (config := {decide := true}) only [e1 _ a1, e1 _ a2, e1 _ a3, e1 _ a4, e1 _ a5, e1 _ a6, e1 _ a7, e1 _ a8, e1 _ a9, a1, a2, a3, a4, a5, a6, a7, a8, a9, if_false, or_self, Bool.false_and, Bool.false_eq_true]
  all_goals simp (config := {decide := true}) only [h, if_true, if_false, true_or, or_true, or_false, false_or]
end Go.Proofs.Ytjbafmnocopofaa
end
section
/-
  Nfa: which trees are right: Check.
-/

namespace Go.Proofs.Ytjbafmnocopofaa
open Go AW
set_option linter.unusedVariables false
set_option linter.unusedSimpArgs false
set_option maxHeartbeats 4000000
mutual
def gcnt : T27 → Nat
  | ⟨k, _, _, _, _, o⟩ => (if k = 6 then 1 else 0) + gcnto o
def gcnto : Option (List T27) → Nat
  | none => 0
  | some l => gcntl l
def gcntl : List T27 → Nat
  | [] => 0
  | x :: l => gcnt x + gcntl l
end
theorem gcnt_eq (n : T27) : gcnt n = (if n.Kind = 6 then 1 else 0) + gcntl (ls n.Kids) := by
  obtain ⟨_, _, _, _, _, o⟩ := n
  rw [gcnt]
  cases o with
  | none => rfl
  | some l => rfl
/-- A tree is right, behind so many groups. -/
def goodp (n : T27) (b : Nat) : Prop := pl n = true ∧ (n.Kind = 6 → n.Group = (b : Int) + 1 ∧ b + 1 ≤ 99) ∧ (n.Kind = 7 → 1 ≤ n.Group ∧ n.Group ≤ 9 ∧ n.Group ≤ (b : Int))
mutual
def good : T27 → Nat → Prop
  | ⟨k, st, mn, mx, g, o⟩, b => goodp ⟨k, st, mn, mx, g, o⟩ b ∧ goodo o (b + if k = 6 then 1 else 0)
def goodo : Option (List T27) → Nat → Prop
  | none, _ => True
  | some l, b => goodl l b
def goodl : List T27 → Nat → Prop
  | [], _ => True
  | x :: l, b => good x b ∧ goodl l (b + gcnt x)
end
theorem good_eq (n : T27) (b : Nat) : good n b ↔ goodp n b ∧ goodl (ls n.Kids) (b + if n.Kind = 6 then 1 else 0) := by
  obtain ⟨k, st, mn, mx, g, o⟩ := n
  rw [good]
  cases o with
  | none => simp [goodo, ls, goodl]
  | some l => rw [goodo]; rfl
theorem ls_sapp1 {α : Type} (o : Sl α) (x : α) : ls (sapp o (ls (some [x]))) = ls o ++ [x] := by rw [ls_sapp]; rfl
theorem p4_no (n : T27) (hl : (ls n.Kids).length ≤ 100000) (b : Int) (E : Sl Bool) : ∀ (m i : Nat), m + i = (ls n.Kids).length → G30 (.p4 n ((ls n.Kids).length : Int) (i : Int) false b E) = some (false, b, E)
  | 0, i, h => by rw [G30.eq_5, dfi (by omega), if_neg (by simp)]
  | m + 1, i, h => by rw [G30.eq_5, dti (by omega), if_neg (by simp), wn1 i (by omega), p4_no n hl b E m (i + 1) (by omega)]
/-- What Check's walk says of a tree behind so many groups. -/
def Chk (b m : Nat) (g : Prop) (gc : Nat) (r : Option (Bool × Int × Sl Bool)) : Prop :=
  ∃ (ok : Bool) (b' : Nat) (E' : Sl Bool), r = some (ok, (b' : Int), E') ∧ (ls E').length = b' ∧ b ≤ b' ∧ b' ≤ b + m ∧ (ok = true → g) ∧ (ok = true → b' = b + gc)
theorem g30_4 (n : T27) (hl : (ls n.Kids).length ≤ 100000) (ih : ∀ k ∈ ls n.Kids, ∀ (b : Nat) (E : Sl Bool), (ls E).length = b → b + cnt k ≤ 100000 → Chk b (cnt k) (good k b) (gcnt k) (G30 (.e k true (b : Int) E))) :
    ∀ (m i b : Nat) (E : Sl Bool), m + i = (ls n.Kids).length → (ls E).length = b → b + cntl ((ls n.Kids).drop i) ≤ 100000 → (n.Kind = 6 → 1 ≤ n.Group ∧ n.Group ≤ (b : Int)) →
    Chk b (cntl ((ls n.Kids).drop i)) (goodl ((ls n.Kids).drop i) b) (gcntl ((ls n.Kids).drop i)) (G30 (.p4 n ((ls n.Kids).length : Int) (i : Int) true (b : Int) E))
  | 0, i, b, E, h, hE, hb, hg => by
    rw [G30.eq_5, dfi (by omega), if_pos rfl, List.drop_of_length_le (by omega)]
    by_cases h6 : n.Kind = 6
    · have := hg h6
      obtain ⟨g, hgn⟩ : ∃ g : Nat, n.Group - 1 = g := ⟨(n.Group - 1).toNat, by omega⟩
      obtain ⟨v, hv⟩ := get_ex (ls E) (i := g) (by omega)
      rw [eti h6, wi _ (by omega) (by omega), hgn, ixs hv, sm]
      exact ⟨true, b, _, rfl, by rw [ls_vset, List.length_set, hE], by omega, by omega, fun _ => by rw [goodl]; trivial, fun _ => rfl⟩
    · rw [efi h6]
      exact ⟨true, b, E, rfl, hE, by omega, by omega, fun _ => by rw [goodl]; trivial, fun _ => rfl⟩
  | m + 1, i, b, E, h, hE, hb, hg => by
    obtain ⟨k, hk⟩ := get_ex (ls n.Kids) (i := i) (by omega)
    have hd := cntl_drop hk
    have hgd : gcntl ((ls n.Kids).drop i) = gcnt k + gcntl ((ls n.Kids).drop (i + 1)) := by rw [drop_cons hk, gcntl]
    have hgo : goodl ((ls n.Kids).drop i) b ↔ good k b ∧ goodl ((ls n.Kids).drop (i + 1)) (b + gcnt k) := by rw [drop_cons hk, goodl]
    rw [G30.eq_5, dti (by omega), if_pos rfl, ixs hk, sm, hd, hgd, hgo]
    obtain ⟨ok, b', E', e, h1, h2, h3, h4, h5⟩ := ih k (List.mem_of_getElem? hk) b E hE (by omega)
    rw [e, sm, wn1 i (by omega)]
    cases ok with
    | false =>
      rw [p4_no n hl _ _ m (i + 1) (by omega)]
      exact ⟨false, b', E', rfl, h1, h2, by omega, fun h => (by cases h), fun h => by cases h⟩
    | true =>
      have h4' := h4 rfl
      have h5' := h5 rfl
      subst h5'
      obtain ⟨ok2, b2, E2, e2, j1, j2, j3, j4, j5⟩ := g30_4 n hl ih m (i + 1) (b + gcnt k) E' (by omega) h1 (by omega) (fun h => by have := hg h; omega)
      refine ⟨ok2, b2, E2, e2, j1, by omega, by omega, fun h => ⟨h4', j4 h⟩, fun h => by have := j5 h; omega⟩
theorem g30 : ∀ (n : T27) (b : Nat) (E : Sl Bool), (ls E).length = b → b + cnt n ≤ 100000 → Chk b (cnt n) (good n b) (gcnt n) (G30 (.e n true (b : Int) E)) := by
  intro n
  induction n using tree_ind with
  | h n ih =>
    intro b E hE hb
    have hc := cnt_eq n
    have hkl := cntl_len (ls n.Kids)
    rw [G30.eq_1, if_pos rfl, f31, sm, G30.eq_2, good_eq, gcnt_eq]
    unfold goodp
    cases hp : pl n with
    | false =>
      rw [if_pos (show (!false) = true from rfl)]
      exact ⟨false, b, E, rfl, hE, by omega, by omega, fun h => (by cases h), fun h => by cases h⟩
    | true =>
      have h4 := fun (b : Nat) (E : Sl Bool) (h1 : (ls E).length = b) (h2 : b + cntl ((ls n.Kids).drop 0) ≤ 100000) (h3 : n.Kind = 6 → 1 ≤ n.Group ∧ n.Group ≤ (b : Int)) => g30_4 n (by omega) ih (ls n.Kids).length 0 b E (by omega) h1 h2 h3
      rw [List.drop_zero] at h4
      have h3f : ∀ (b' : Int) (E : Sl Bool), G30 (.p3 n false b' E) = some (false, b', E) := fun b' E => by
        rw [G30.eq_4]
        exact p4_no n (by omega) b' E (ls n.Kids).length 0 (by omega)
      rw [if_neg (show ¬ (!true) = true by simp)]
      by_cases h6 : n.Kind = 6
      · rw [eti h6, wn1 b (by omega), if_pos h6]
        have hgrow : ∀ ok : Bool, G30 (.p2 n ok ((b + 1 : Nat) : Int) E) = G30 (.p3 n ok ((b + 1 : Nat) : Int) (sapp E (ls (some [false])))) := fun ok => by
          rw [G30.eq_3, if_pos (by simp [ls] at hE ⊢; omega)]
        have hE1 : (ls (sapp E (ls (some [false])))).length = b + 1 := by rw [ls_sapp1]; simp [hE]
        by_cases hg : n.Group = ((b + 1 : Nat) : Int)
        · rw [eti hg, hgrow]
          by_cases h99 : b + 1 ≤ 99
          · rw [decide_eq_true (by omega), G30.eq_4]
            obtain ⟨ok, b', E', e, j1, j2, j3, j4, j5⟩ := h4 (b + 1) _ hE1 (by omega) (fun _ => by omega)
            exact ⟨ok, b', E', e, j1, by omega, by omega, fun h => ⟨⟨rfl, fun _ => ⟨by omega, h99⟩, fun h7 => by omega⟩, j4 h⟩, fun h => by have := j5 h; omega⟩
          · rw [decide_eq_false (by omega), h3f]
            exact ⟨false, b + 1, _, rfl, hE1, by omega, by omega, fun h => (by cases h), fun h => by cases h⟩
        · rw [efi hg, hgrow, h3f]
          exact ⟨false, b + 1, _, rfl, hE1, by omega, by omega, fun h => (by cases h), fun h => by cases h⟩
      · rw [efi h6, if_neg h6, Nat.zero_add, Nat.add_zero]
        have no : ∀ P gc, Chk b (cnt n) P gc (G30 (.p3 n false (b : Int) E)) := fun P gc => by
          rw [h3f]; exact ⟨false, b, E, rfl, hE, by omega, by omega, fun h => (by cases h), fun h => by cases h⟩
        have yes : (n.Kind = 7 → 1 ≤ n.Group ∧ n.Group ≤ 9 ∧ n.Group ≤ (b : Int)) → Chk b (cnt n) ((true = true ∧ (n.Kind = 6 → n.Group = (b : Int) + 1 ∧ b + 1 ≤ 99) ∧ (n.Kind = 7 → 1 ≤ n.Group ∧ n.Group ≤ 9 ∧ n.Group ≤ (b : Int))) ∧ goodl (ls n.Kids) b) (gcntl (ls n.Kids)) (G30 (.p3 n true (b : Int) E)) := by
          intro hok
          rw [G30.eq_4]
          obtain ⟨ok, b', E', e, j1, j2, j3, j4, j5⟩ := h4 b E hE (by omega) (fun h => absurd h h6)
          exact ⟨ok, b', E', e, j1, by omega, by omega, fun h => ⟨⟨rfl, fun h => absurd h h6, hok⟩, j4 h⟩, fun h => by have := j5 h; omega⟩
        by_cases h7 : n.Kind = 7
        · rw [eti h7]
          by_cases k1 : n.Group ≥ 1
          · rw [dti k1]
            by_cases k2 : n.Group ≤ 9
            · rw [dti k2]
              by_cases k3 : n.Group ≤ (b : Int)
              · rw [dti k3]
                obtain ⟨g, hgn⟩ : ∃ g : Nat, n.Group - 1 = g := ⟨(n.Group - 1).toNat, by omega⟩
                obtain ⟨v, hv⟩ := get_ex (ls E) (i := g) (by omega)
                rw [wi _ (by omega) (by omega), hgn, ixs hv, sm]
                cases v with
                | false => exact no _ _
                | true => exact yes fun _ => ⟨k1, k2, k3⟩
              · rw [dfi k3]; exact no _ _
            · rw [dfi k2]; exact no _ _
          · rw [dfi k1]; exact no _ _
        · rw [efi h7]; exact yes fun h => absurd h h7
/-- Check: total; where it is content, the tree is right. -/
theorem f12 (n : T27) : ∃ r : Int, F12 n = some r ∧ (r = 0 → good n 0 ∧ cnt n ≤ 8192) := by
  unfold F12 F29
  rw [sm, G12.eq_1, f40, sm]
  by_cases h : cnt n ≤ 8192
  · rw [if_pos h, if_pos rfl]
    obtain ⟨ok, b', E', e, h1, h2, h3, h4, h5⟩ := g30 n 0 none (by simp [ls]) (by omega)
    have e' : F30 n true 0 none = some (ok, (b' : Int), E') := e
    rw [e', sm]
    cases ok with
    | false => exact ⟨90, rfl, fun h => by cases h⟩
    | true => exact ⟨0, rfl, fun _ => ⟨h4 rfl, h⟩⟩
  · rw [if_neg h]
    exact ⟨3, rfl, fun h => by cases h⟩
end Go.Proofs.Ytjbafmnocopofaa
end
section
/-
  Nfa: the groups of a tree, and how many instructions it has.
-/

namespace Go.Proofs.Ytjbafmnocopofaa
open Go AW
set_option linter.unusedVariables false
set_option linter.unusedSimpArgs false
set_option maxHeartbeats 4000000
theorem nat_of' {z : Int} (h : 0 ≤ z) : ∃ n : Nat, z = n := ⟨z.toNat, by omega⟩
/-! ### Groups counted -/
theorem b28 (a : Int) (t x : T27) (c : Nat) (hc : c ≤ 100000) : B28_1 a t x ((c : Int), 0) = some (true, (((c + if x.Kind = 6 then 1 else 0 : Nat) : Int), 0)) := by
  unfold B28_1
  simp only
  rw [if_pos trivial]
  by_cases h : x.Kind = 6
  · rw [eti h, wn1 c (by omega), if_pos h]
  · rw [efi h, if_neg h]; rfl
theorem gcnt_le : ∀ n : T27, gcnt n ≤ cnt n := by
  intro n
  induction n using tree_ind with
  | h n ih =>
    rw [gcnt_eq, cnt_eq]
    have : ∀ l : List T27, (∀ k ∈ l, gcnt k ≤ cnt k) → gcntl l ≤ cntl l := by
      intro l
      induction l with
      | nil => intro _; rw [gcntl, cntl]; omega
      | cons x l ihl => intro h; have := h x (by simp); have := ihl fun k hk => h k (by simp [hk]); rw [gcntl, cntl]; omega
    have := this _ ih
    split <;> omega
theorem gcntl_le (l : List T27) : gcntl l ≤ cntl l := by
  induction l with
  | nil => rw [gcntl, cntl]; omega
  | cons x l ih => have := gcnt_le x; rw [gcntl, cntl]; omega
theorem g41b_1 (a : Int) (t : T27) (n : T27) (hl : (ls n.Kids).length ≤ 100000) (hn : ∀ k ∈ ls n.Kids, ∀ (c : Nat), c + cnt k ≤ 100000 → G41 (B28_1 a t) (.e k ((c : Int), 0)) = some (true, (((c + gcnt k : Nat) : Int), 0))) :
    ∀ (m i c : Nat), m + i = (ls n.Kids).length → c + cntl ((ls n.Kids).drop i) ≤ 100000 → G41 (B28_1 a t) (.p1 n ((ls n.Kids).length : Int) (i : Int) ((c : Int), 0)) = some (true, (((c + gcntl ((ls n.Kids).drop i) : Nat) : Int), 0))
  | 0, i, c, h, hc => by
    rw [G41.eq_2, dfi (by omega), List.drop_of_length_le (by omega), gcntl, Nat.add_zero]
  | m + 1, i, c, h, hc => by
    obtain ⟨k, hk⟩ := get_ex (ls n.Kids) (i := i) (by omega)
    have hd := cntl_drop hk
    have hg := gcnt_le k
    rw [G41.eq_2, dti (by omega), ixs hk, sm, hn k (List.mem_of_getElem? hk) c (by omega), sm]
    simp only [Bool.not_true, Bool.false_eq_true, if_false]
    rw [wn1 i (by omega), g41b_1 a t n hl hn m (i + 1) (c + gcnt k) (by omega) (by omega), drop_cons hk, gcntl, Nat.add_assoc]
theorem g41b (a : Int) (t : T27) : ∀ (n : T27) (c : Nat), c + cnt n ≤ 100000 → G41 (B28_1 a t) (.e n ((c : Int), 0)) = some (true, (((c + gcnt n : Nat) : Int), 0)) := by
  intro n
  induction n using tree_ind with
  | h n ih =>
    intro c hc
    have he := cnt_eq n
    have hl := cntl_len (ls n.Kids)
    rw [G41.eq_1, b28 a t n c (by omega), sm]
    simp only [Bool.not_true, Bool.false_eq_true, if_false]
    have := g41b_1 a t n (by omega) ih (ls n.Kids).length 0 (c + if n.Kind = 6 then 1 else 0) (by omega) (by rw [List.drop_zero]; split <;> omega)
    have this' : G41 (B28_1 a t) (.p1 n ((ls n.Kids).length : Int) 0 (((c + if n.Kind = 6 then 1 else 0 : Nat) : Int), 0)) = _ := this
    rw [this', List.drop_zero, gcnt_eq, Nat.add_assoc]
theorem f28 (n : T27) (h : cnt n ≤ 8192) : F28 n = some (gcnt n : Int) := by
  unfold F28 F29
  rw [sm, G28.eq_1]
  unfold F40 F41
  have := g41b 0 n n 0 (by omega)
  have this' : G41 (B28_1 0 n) (.e n (0, 0)) = _ := this
  rw [this', sm, sm, if_pos rfl, Nat.zero_add]

/-! ### The least and the greatest group -/
def glo (b m : Nat) : Int := if m = 0 then 0 else (b : Int) + 1
def ghi (b m : Nat) : Int := if m = 0 then 0 else (b : Int) + m
theorem g38_2 (n : T27) (ih : ∀ k ∈ ls n.Kids, ∀ b : Nat, good k b → G38 (.e k) = some (glo b (gcnt k), ghi b (gcnt k))) (b : Nat) (hl : (ls n.Kids).length ≤ 100000) :
    ∀ (q i m : Nat), q + i = (ls n.Kids).length → goodl ((ls n.Kids).drop i) (b + m) → G38 (.p2 (glo b m) (ghi b m) n.Kids ((ls n.Kids).length : Int) (i : Int)) = some (glo b (m + gcntl ((ls n.Kids).drop i)), ghi b (m + gcntl ((ls n.Kids).drop i)))
  | 0, i, m, h, hg => by
    rw [G38.eq_3, dfi (by omega), List.drop_of_length_le (by omega), gcntl]; rfl
  | q + 1, i, m, h, hg => by
    obtain ⟨k, hk⟩ := get_ex (ls n.Kids) (i := i) (by omega)
    rw [drop_cons hk, goodl] at hg
    have step := g38_2 n ih b hl q (i + 1) (m + gcnt k) (by omega) (by rw [← Nat.add_assoc]; exact hg.2)
    have fin : G38 (.p2 (glo b (m + gcnt k)) (ghi b (m + gcnt k)) n.Kids ((ls n.Kids).length : Int) (IntKind.wrap .i64 ((i : Int) + 1))) = some (glo b (m + gcntl ((ls n.Kids).drop i)), ghi b (m + gcntl ((ls n.Kids).drop i))) := by
      rw [wn1 i (by omega), step, drop_cons hk, gcntl, Nat.add_assoc]
    rw [G38.eq_3, dti (by omega), ixs hk, sm, ih k (List.mem_of_getElem? hk) _ hg.1, sm]
    simp only [G38.eq_4]
    generalize gcnt k = g at *
    by_cases h0 : g = 0
    · subst h0
      rw [dfi (by simp [glo])]
      have : ghi (b + m) 0 = 0 := rfl
      rw [this, if_neg (by unfold ghi; split <;> omega)]
      exact fin
    · rw [dti (by simp only [glo, if_neg h0]; omega)]
      by_cases hm : m = 0
      · subst hm
        rw [eti (by rfl)]
        have e1 : glo (b + 0) g = glo b (0 + g) := by simp [glo]
        have e2 : (if ghi (b + 0) g > ghi b 0 then ghi (b + 0) g else ghi b 0) = ghi b (0 + g) := by
          have : ghi b 0 = 0 := rfl
          rw [this, Nat.zero_add, Nat.add_zero]; unfold ghi; rw [if_neg h0, if_pos (by omega)]
        rw [e1, e2]
        exact fin
      · rw [efi (by simp only [glo, if_neg hm]; omega), dfi (by simp only [glo, if_neg hm, if_neg h0]; omega)]
        have e1 : glo b m = glo b (m + g) := by simp [glo, hm]
        have e2 : (if ghi (b + m) g > ghi b m then ghi (b + m) g else ghi b m) = ghi b (m + g) := by
          unfold ghi; rw [if_neg h0, if_neg hm, if_neg (by omega : ¬ m + g = 0), if_pos (by omega)]; omega
        rw [e2, e1]
        exact fin
theorem g38 : ∀ (n : T27) (b : Nat), cnt n ≤ 100000 → good n b → G38 (.e n) = some (glo b (gcnt n), ghi b (gcnt n)) := by
  intro n
  induction n using tree_ind with
  | h n ih =>
    intro b hc hg
    have he := cnt_eq n
    have hl := cntl_len (ls n.Kids)
    rw [good_eq] at hg
    have ih' : ∀ k ∈ ls n.Kids, ∀ b : Nat, good k b → G38 (.e k) = some (glo b (gcnt k), ghi b (gcnt k)) := fun k hk b h => ih k hk b (by have := cnt_kid hk; omega) h
    rw [G38.eq_1, gcnt_eq]
    by_cases h6 : n.Kind = 6
    · obtain ⟨e, _⟩ := hg.1.2.1 h6
      rw [eti h6, if_pos h6, G38.eq_2]
      have := g38_2 n ih' b (by omega) (ls n.Kids).length 0 1 (by omega) (by rw [List.drop_zero]; simpa [h6] using hg.2)
      have e1 : glo b 1 = n.Group := by rw [e]; rfl
      have e2 : ghi b 1 = n.Group := by rw [e]; rfl
      rw [e1, e2, List.drop_zero] at this
      exact this
    · rw [efi h6, if_neg h6, G38.eq_2]
      have := g38_2 n ih' b (by omega) (ls n.Kids).length 0 0 (by omega) (by rw [List.drop_zero]; simpa [h6] using hg.2)
      rw [List.drop_zero] at this
      exact this

/-! ### Sizes -/
mutual
def sz : T27 → Nat
  | ⟨k, _, mn, mx, _, o⟩ =>
    if k = 1 then 0 else if k = 3 then szo o else if k = 4 then szo o + 2 * ((ls o).length - 1) else if k = 6 then szo o + 2
    else if k = 5 then mn.toNat * (szo o + if gcnto o = 0 then 0 else 1) + (if mx = -1 then (szo o + if gcnto o = 0 then 0 else 1) + 4 else (mx - mn).toNat * ((szo o + if gcnto o = 0 then 0 else 1) + 3)) else 1
def szo : Option (List T27) → Nat
  | none => 0
  | some l => szl l
def szl : List T27 → Nat
  | [] => 0
  | x :: l => sz x + szl l
end
/-- The size of a round. -/
def rsz (k : T27) : Nat := sz k + if gcnt k = 0 then 0 else 1
theorem sz_eq (n : T27) : sz n = if n.Kind = 1 then 0 else if n.Kind = 3 then szl (ls n.Kids) else if n.Kind = 4 then szl (ls n.Kids) + 2 * ((ls n.Kids).length - 1) else if n.Kind = 6 then szl (ls n.Kids) + 2
    else if n.Kind = 5 then n.Min.toNat * (szl (ls n.Kids) + if gcntl (ls n.Kids) = 0 then 0 else 1) + (if n.Max = -1 then (szl (ls n.Kids) + if gcntl (ls n.Kids) = 0 then 0 else 1) + 4 else (n.Max - n.Min).toNat * ((szl (ls n.Kids) + if gcntl (ls n.Kids) = 0 then 0 else 1) + 3)) else 1 := by
  obtain ⟨_, _, _, _, _, o⟩ := n
  rw [sz]
  cases o with
  | none => rfl
  | some l => rfl
def cap (x : Nat) : Nat := min x 16385
theorem cap_le (x : Nat) : cap x ≤ 16385 := by unfold cap; omega
theorem cap_add (x y : Nat) : cap (cap x + cap y) = cap (x + y) := by unfold cap; omega
theorem cap_add1 (x y : Nat) : cap (cap x + y) = cap (x + y) := by unfold cap; omega
theorem cap_add2 (x y : Nat) : cap (x + cap y) = cap (x + y) := by unfold cap; omega
theorem cap_mul (m r : Nat) : cap (m * cap r) = cap (m * r) := by
  by_cases h : r ≤ 16385
  · have : cap r = r := by unfold cap; omega
    rw [this]
  · have h1 : cap r = 16385 := by unfold cap; omega
    rw [h1]
    cases m with
    | zero => simp
    | succ m =>
      have h2 : 16385 ≤ (m + 1) * 16385 := Nat.le_mul_of_pos_left _ (by omega)
      have h3 : r ≤ (m + 1) * r := Nat.le_mul_of_pos_left _ (by omega)
      unfold cap
      omega
theorem cap_mul3 (m r : Nat) : cap (m * (cap r + 3)) = cap (m * (r + 3)) := by
  have h1 := cap_mul m (r + 3)
  have h2 := cap_mul m (cap r + 3)
  rw [← h2, cap_add1, h1]
theorem f37 (x q : Nat) (hx : x ≤ 100000000) (hq : q ≤ 100000000) : F37 (x : Int) (q : Int) = some (cap (q + x) : Int) := by
  unfold F37 cap
  rw [wi _ (by omega) (by omega)]
  split <;> exact congrArg some (by omega)
theorem if37 (x : Nat) (h : x ≤ 100000000) : (if 16385 < IntKind.wrap .i64 ((x : Int) + 1) then 16385 else IntKind.wrap .i64 ((x : Int) + 1)) = ((cap (x + 1) : Nat) : Int) := by
  rw [wn1 x (by omega)]
  unfold cap
  split <;> omega
theorem f37' {x q : Int} (m k : Nat) (hx : x = m) (hq : q = k) (h1 : m ≤ 100000000) (h2 : k ≤ 100000000) : F37 x q = some (cap (k + m) : Int) := by subst hx; subst hq; exact f37 m k h1 h2
theorem goodl_mem : ∀ {l : List T27} {b : Nat} {k : T27}, goodl l b → k ∈ l → ∃ b', good k b'
  | [], b, k, _, h => by simp at h
  | x :: l, b, k, hg, h => by
    rw [goodl] at hg
    rcases List.mem_cons.1 h with rfl | h
    · exact ⟨_, hg.1⟩
    · exact goodl_mem hg.2 h
theorem g25_3 (n : T27) (hl : (ls n.Kids).length ≤ 100000) (ih : ∀ k ∈ ls n.Kids, G25 (.e k) = some (cap (sz k) : Int)) :
    ∀ (m i a : Nat), m + i = (ls n.Kids).length → G25 (.p3 n n.Kids ((ls n.Kids).length : Int) (i : Int) (cap a : Int)) = (if n.Kind = 4 then F37 (IntKind.wrap .i64 (2 * (IntKind.wrap .i64 (((ls n.Kids).length : Int) - 1)))) (cap (a + szl ((ls n.Kids).drop i)) : Int) >>= fun r => G25 (.p4 n r) else G25 (.p4 n (cap (a + szl ((ls n.Kids).drop i)) : Int)))
  | 0, i, a, h => by
    rw [G25.eq_4, dfi (by omega), List.drop_of_length_le (by omega), szl, Nat.add_zero]
    by_cases h4 : n.Kind = 4
    · rw [eti h4, if_pos h4]
    · rw [efi h4, if_neg h4]
  | m + 1, i, a, h => by
    obtain ⟨k, hk⟩ := get_ex (ls n.Kids) (i := i) (by omega)
    have c1 := cap_le (sz k)
    have c2 := cap_le a
    rw [G25.eq_4, dti (by omega), ixs hk, sm, ih k (List.mem_of_getElem? hk), sm, f37 _ _ (by omega) (by omega), sm, wn1 i (by omega), cap_add, g25_3 n hl ih m (i + 1) (a + sz k) (by omega), drop_cons hk, szl, Nat.add_assoc]
theorem g25 : ∀ (n : T27) (b : Nat), cnt n ≤ 100000 → good n b → G25 (.e n) = some (cap (sz n) : Int) := by
  intro n
  induction n using tree_ind with
  | h n ih =>
    intro b hc hg
    have he := cnt_eq n
    have hl := cntl_len (ls n.Kids)
    rw [good_eq] at hg
    have ih' : ∀ k ∈ ls n.Kids, G25 (.e k) = some (cap (sz k) : Int) := fun k hk => by
      obtain ⟨b', hb'⟩ := goodl_mem hg.2 hk
      exact ih k hk b' (by have := cnt_kid hk; omega) hb'
    have hp := hg.1.1
    have h3 := g25_3 n (by omega) ih' (ls n.Kids).length 0 0 (by omega)
    rw [List.drop_zero, Nat.zero_add] at h3
    have h3' := (G25.eq_2 n 0).trans h3
    have c1 := cap_le (szl (ls n.Kids))
    rw [G25.eq_1, sz_eq]
    by_cases k1 : n.Kind = 1
    · rw [eti k1, if_pos k1]; rfl
    rw [efi k1, if_neg k1]
    by_cases k3 : n.Kind = 3
    · rw [eti k3, if_pos k3, h3', if_neg (by omega), G25.eq_5, efi (by omega)]
    rw [efi k3, if_neg k3]
    by_cases k4 : n.Kind = 4
    · rw [eti k4, if_pos k4, h3', if_pos k4]
      have hk2 : 2 ≤ (ls n.Kids).length := by
        unfold pl at hp
        simp only [k4, or_true, if_true, Bool.and_eq_true, decide_eq_true_eq] at hp
        exact hp.1.1.1
      rw [wm1 _ (by omega) (by omega), wi _ (by omega) (by omega), f37' (2 * ((ls n.Kids).length - 1)) (cap (szl (ls n.Kids))) (by omega) rfl (by omega) (by omega), sm, cap_add1, G25.eq_5, efi (by omega)]
    rw [efi k4, if_neg k4]
    by_cases k6 : n.Kind = 6
    · rw [eti k6, if_pos k6, h3', if_neg (by omega), G25.eq_5, eti k6, f37' 2 (cap (szl (ls n.Kids))) (show (2 : Int) = ((2 : Nat) : Int) from rfl) rfl (by omega) (by omega), sm, cap_add1]
    rw [efi k6, if_neg k6]
    by_cases k5 : n.Kind = 5
    · rw [eti k5, if_pos k5]
      unfold pl at hp
      simp (config := {decide := true}) only [k5, or_self, if_false, if_true, Bool.and_eq_true, decide_eq_true_eq] at hp
      obtain ⟨⟨⟨⟨hmm, hk1⟩, _⟩, _⟩, _⟩ := hp
      obtain ⟨k, hk⟩ : ∃ k, ls n.Kids = [k] := List.length_eq_one_iff.1 hk1
      have hkm : k ∈ ls n.Kids := by simp [hk]
      obtain ⟨b', hb'⟩ := goodl_mem hg.2 hkm
      have hck := cnt_kid hkm
      have hix : ix (ls n.Kids) 0 = some k := by rw [hk]; rfl
      have e1 : szl (ls n.Kids) = sz k := by rw [hk, szl, szl]; rfl
      have e2 : gcntl (ls n.Kids) = gcnt k := by rw [hk, gcntl, gcntl]; rfl
      rw [hix, sm, ih' k hkm, sm, sm]
      unfold F38
      rw [g38 k b' (by omega) hb', sm, e1, e2]
      have fin : ∀ r : Nat, G25 (.p2 n (cap r : Int) 0) = some (cap (n.Min.toNat * r + if n.Max = -1 then r + 4 else (n.Max - n.Min).toNat * (r + 3)) : Int) := by
        intro r
        have c2 := cap_le r
        obtain ⟨mn, hmn⟩ := nat_of' hmm.1
        rw [G25.eq_3, hmn, Int.toNat_natCast]
        have hb1 : mn * cap r ≤ 255 * 16385 := Nat.mul_le_mul (by omega) c2
        rw [← Int.natCast_mul, wi _ (by omega) (by omega), f37' (mn * cap r) 0 rfl (show (0 : Int) = ((0 : Nat) : Int) from rfl) (by omega) (by omega), sm, Nat.zero_add, cap_mul]
        have c3 := cap_le (mn * r)
        by_cases hx : n.Max = -1
        · rw [eti hx, if_pos hx, wi _ (by omega) (by omega), f37' (cap r + 4) (cap (mn * r)) (by omega) rfl (by omega) (by omega), sm, cap_add1, ← Nat.add_assoc, Nat.add_comm _ (cap r), Nat.add_assoc, cap_add1]
          exact congrArg (fun x : Nat => some ((cap x : Nat) : Int)) (by omega)
        · obtain ⟨d, hd⟩ : ∃ d : Nat, n.Max - (mn : Int) = d := ⟨(n.Max - (mn : Int)).toNat, by omega⟩
          have hb2 : d * (cap r + 3) ≤ 255 * 16388 := Nat.mul_le_mul (by omega) (by omega)
          have e5 : (d : Int) * ((cap r : Int) + 3) = ((d * (cap r + 3) : Nat) : Int) := by rw [Int.natCast_mul, Int.natCast_add]; rfl
          rw [efi hx, if_neg hx, hd, Int.toNat_natCast, wi (d : Int) (by omega) (by omega), wi ((cap r : Int) + 3) (by omega) (by omega), e5, wi _ (by omega) (by omega), f37' (d * (cap r + 3)) (cap (mn * r)) rfl rfl (by omega) (by omega), sm, cap_add1, ← cap_add2, cap_mul3, cap_add2]
      by_cases hg0 : gcnt k = 0
      · rw [dfi (by simp [glo, hg0]), fin, if_pos hg0]; simp only [Nat.add_zero]
      · rw [dti (by simp only [glo, if_neg hg0]; omega), if37 _ (by have := cap_le (sz k); omega), cap_add1, fin, if_neg hg0]
    · rw [efi k5, if_neg k5]; rfl
theorem f9 (n : T27) : ∃ r : Int × Int, F9 n = some r ∧ (∃ w : Int, F12 n = some w ∧ (w ≠ 0 → r = (0, w)) ∧ (w = 0 → good n 0 ∧ cnt n ≤ 8192 ∧ r = if sz n < 16384 then (((sz n + 1 : Nat) : Int), 0) else (0, 3))) := by
  obtain ⟨w, hw, h⟩ := f12 n
  unfold F9
  rw [hw, sm]
  by_cases h0 : w = 0
  · obtain ⟨hg, hc⟩ := h h0
    subst h0
    rw [nfi rfl]
    unfold F25
    rw [g25 n 0 (by omega) hg, sm]
    by_cases hs : sz n < 16384
    · have : cap (sz n) = sz n := by unfold cap; omega
      rw [this, dti (by omega), wn1 _ (by omega)]
      exact ⟨_, rfl, 0, rfl, fun h => absurd rfl h, fun _ => ⟨hg, hc, by rw [if_pos hs]⟩⟩
    · have : 16384 ≤ cap (sz n) := by unfold cap; omega
      rw [dfi (by omega)]
      exact ⟨_, rfl, 0, rfl, fun h => absurd rfl h, fun _ => ⟨hg, hc, by rw [if_neg hs]⟩⟩
  · rw [nti h0]
    exact ⟨_, rfl, w, rfl, fun _ => rfl, fun h => absurd h h0⟩
end Go.Proofs.Ytjbafmnocopofaa
end
section
/-
  Nfa: the program of a tree: what Compile lays out.
-/

namespace Go.Proofs.Ytjbafmnocopofaa
open Go AW
set_option linter.unusedVariables false
set_option linter.unusedSimpArgs false
set_option maxHeartbeats 4000000
abbrev ik (k : Int) : T52 := { Kind := k, Set := Arr.rep 4 0, To := 0, Group := 0, Last := 0, Slot := 0 }
abbrev iTo (k t : Int) : T52 := { Kind := k, Set := Arr.rep 4 0, To := t, Group := 0, Last := 0, Slot := 0 }
abbrev iGr (k g : Int) : T52 := { Kind := k, Set := Arr.rep 4 0, To := 0, Group := g, Last := 0, Slot := 0 }
abbrev iCl (g l : Int) : T52 := { Kind := 6, Set := Arr.rep 4 0, To := 0, Group := g, Last := l, Slot := 0 }
abbrev iSl (k s : Int) : T52 := { Kind := k, Set := Arr.rep 4 0, To := 0, Group := 0, Last := 0, Slot := s }
abbrev iSet (s : Arr 4 Int) : T52 := { Kind := 1, Set := s, To := 0, Group := 0, Last := 0, Slot := 0 }
noncomputable def lh (k : T27) : Int × Int := (F38 k).getD (0, 0)
def clr (l : Int × Int) : List T52 := if l.1 > 0 then [iCl l.1 l.2] else []
/-- A round that need not move, one that must. -/
def rnd (f : Nat → Nat → List T52) (l : Int × Int) (a fr : Nat) : List T52 := clr l ++ f (a + (clr l).length) fr
def frd (f : Nat → Nat → List T52) (l : Int × Int) (a fr : Nat) : List T52 := iSl 7 fr :: (rnd f l (a + 1) (fr + 1) ++ [iSl 8 fr])
def mins (f : Nat → Nat → List T52) (l : Int × Int) (r fr : Nat) : Nat → Nat → List T52
  | 0, _ => []
  | m + 1, a => rnd f l a fr ++ mins f l r fr m (a + r)
def opts (f : Nat → Nat → List T52) (l : Int × Int) (r fr : Nat) (e : Nat) : Nat → Nat → List T52
  | 0, _ => []
  | m + 1, a => iTo 2 e :: (frd f l (a + 1) fr ++ opts f l r fr e m (a + r + 3))
def repc (f : Nat → Nat → List T52) (l : Int × Int) (r : Nat) (mn mx : Int) (a fr : Nat) : List T52 :=
  mins f l r fr mn.toNat a ++
  if mx = -1 then iTo 2 ((a + mn.toNat * r + r + 4 : Nat) : Int) :: (frd f l (a + mn.toNat * r + 1) fr ++ [iTo 3 ((a + mn.toNat * r : Nat) : Int)])
  else opts f l r fr (a + mn.toNat * r + (mx - mn).toNat * (r + 3)) (mx - mn).toNat (a + mn.toNat * r)
mutual
noncomputable def cd : T27 → Nat → Nat → List T52
  | ⟨k, st, mn, mx, g, o⟩, a, fr =>
    if k = 1 then [] else if k = 2 then [iSet st] else if k = 3 then cdo o a fr else if k = 4 then alo o (a + szo o + 2 * ((ls o).length - 1)) a fr else if k = 5 then rpo o mn mx a fr
    else if k = 6 then iGr 4 g :: (cho o (a + 1) fr ++ [iGr 5 g]) else if k = 7 then [iGr 9 g] else if k = 8 then [ik 10] else if k = 9 then [ik 11] else []
noncomputable def cdo : Option (List T27) → Nat → Nat → List T52
  | none, _, _ => []
  | some l, a, fr => cdl l a fr
noncomputable def cdl : List T27 → Nat → Nat → List T52
  | [], _, _ => []
  | x :: l, a, fr => cd x a fr ++ cdl l (a + sz x) fr
noncomputable def alo : Option (List T27) → Nat → Nat → Nat → List T52
  | none, _, _, _ => []
  | some l, e, a, fr => all l e a fr
noncomputable def all : List T27 → Nat → Nat → Nat → List T52
  | [], _, _, _ => []
  | x :: l, e, a, fr => if l.isEmpty then cd x a fr else iTo 2 ((a + sz x + 2 : Nat) : Int) :: (cd x (a + 1) fr ++ iTo 3 e :: all l e (a + sz x + 2) fr)
noncomputable def rpo : Option (List T27) → Int → Int → Nat → Nat → List T52
  | none, _, _, _, _ => []
  | some l, mn, mx, a, fr => rpl l mn mx a fr
noncomputable def rpl : List T27 → Int → Int → Nat → Nat → List T52
  | [], _, _, _, _ => []
  | x :: _, mn, mx, a, fr => repc (cd x) (lh x) (rsz x) mn mx a fr
noncomputable def cho : Option (List T27) → Nat → Nat → List T52
  | none, _, _ => []
  | some l, a, fr => chl l a fr
noncomputable def chl : List T27 → Nat → Nat → List T52
  | [], _, _ => []
  | x :: _, a, fr => cd x a fr
end
theorem cd_eq (n : T27) (a fr : Nat) : cd n a fr = if n.Kind = 1 then [] else if n.Kind = 2 then [iSet n.Set] else if n.Kind = 3 then cdl (ls n.Kids) a fr else if n.Kind = 4 then all (ls n.Kids) (a + szl (ls n.Kids) + 2 * ((ls n.Kids).length - 1)) a fr else if n.Kind = 5 then rpl (ls n.Kids) n.Min n.Max a fr
    else if n.Kind = 6 then iGr 4 n.Group :: (chl (ls n.Kids) (a + 1) fr ++ [iGr 5 n.Group]) else if n.Kind = 7 then [iGr 9 n.Group] else if n.Kind = 8 then [ik 10] else if n.Kind = 9 then [ik 11] else [] := by
  obtain ⟨k, st, mn, mx, g, o⟩ := n
  rw [cd]
  cases o with
  | none => rfl
  | some l => rfl
mutual
def dep : T27 → Nat
  | ⟨k, _, mn, mx, _, o⟩ => if k = 5 then (if mx = -1 ∨ mn < mx then depo o + 1 else if 0 < mn then depo o else 0) else depo o
def depo : Option (List T27) → Nat
  | none => 0
  | some l => depl l
def depl : List T27 → Nat
  | [] => 0
  | x :: l => max (dep x) (depl l)
end
theorem dep_eq (n : T27) : dep n = if n.Kind = 5 then (if n.Max = -1 ∨ n.Min < n.Max then depl (ls n.Kids) + 1 else if 0 < n.Min then depl (ls n.Kids) else 0) else depl (ls n.Kids) := by
  obtain ⟨_, _, _, _, _, o⟩ := n
  rw [dep]
  cases o with
  | none => rfl
  | some l => rfl
/-- What is known of a right tree's kinds. -/
theorem pl_kids {n : T27} (h : pl n = true) : (n.Kind = 3 ∨ n.Kind = 4) ∧ 2 ≤ (ls n.Kids).length ∨ n.Kind = 5 ∧ (0 ≤ n.Min ∧ n.Min ≤ 255 ∧ (n.Max = -1 ∨ n.Min ≤ n.Max ∧ n.Max ≤ 255)) ∧ (ls n.Kids).length = 1 ∨ n.Kind = 6 ∧ (ls n.Kids).length = 1 ∨ (n.Kind = 1 ∨ n.Kind = 2 ∨ n.Kind = 7 ∨ n.Kind = 8 ∨ n.Kind = 9) ∧ (ls n.Kids).length = 0 := by
  unfold pl at h
  simp only [Bool.and_eq_true] at h
  have h1 := h.1.1.1
  split at h1
  · exact .inl ⟨by assumption, by simpa using h1⟩
  · split at h1
    · simp only [Bool.and_eq_true, decide_eq_true_eq] at h1
      exact .inr (.inl ⟨by assumption, h1⟩)
    · split at h1
      · exact .inr (.inr (.inl ⟨by assumption, by simpa using h1⟩))
      · split at h1
        · exact .inr (.inr (.inr ⟨by assumption, by simpa using h1⟩))
        · cases h1
theorem f38 {k : T27} {b : Nat} (hc : cnt k ≤ 100000) (h : good k b) : F38 k = some (lh k) ∧ lh k = (glo b (gcnt k), ghi b (gcnt k)) := by
  have : F38 k = some (glo b (gcnt k), ghi b (gcnt k)) := g38 k b hc h
  unfold lh
  rw [this]
  exact ⟨rfl, rfl⟩
theorem clr_len {k : T27} {b : Nat} (hc : cnt k ≤ 100000) (h : good k b) : (clr (lh k)).length = if gcnt k = 0 then 0 else 1 := by
  rw [(f38 hc h).2]
  unfold clr glo
  by_cases h0 : gcnt k = 0
  · simp [h0]
  · rw [if_neg h0, if_neg h0, if_pos (show (b : Int) + 1 > 0 by omega)]; rfl
/-! ### Lengths -/
theorem rnd_len {f : Nat → Nat → List T52} {l : Int × Int} {s : Nat} (hf : ∀ a fr, (f a fr).length = s) (a fr : Nat) : (rnd f l a fr).length = s + (clr l).length := by
  unfold rnd; rw [List.length_append, hf]; omega
theorem frd_len {f : Nat → Nat → List T52} {l : Int × Int} {s : Nat} (hf : ∀ a fr, (f a fr).length = s) (a fr : Nat) : (frd f l a fr).length = s + (clr l).length + 2 := by
  unfold frd; rw [List.length_cons, List.length_append, rnd_len hf]; simp
theorem mins_len {f : Nat → Nat → List T52} {l : Int × Int} {s : Nat} (hf : ∀ a fr, (f a fr).length = s) (r fr : Nat) (hr : r = s + (clr l).length) : ∀ m a, (mins f l r fr m a).length = m * r
  | 0, a => by simp [mins]
  | m + 1, a => by rw [mins, List.length_append, rnd_len hf, mins_len hf r fr hr m, Nat.add_mul, ← hr]; omega
theorem opts_len {f : Nat → Nat → List T52} {l : Int × Int} {s : Nat} (hf : ∀ a fr, (f a fr).length = s) (r fr e : Nat) (hr : r = s + (clr l).length) : ∀ m a, (opts f l r fr e m a).length = m * (r + 3)
  | 0, a => by simp [opts]
  | m + 1, a => by rw [opts, List.length_cons, List.length_append, frd_len hf, opts_len hf r fr e hr m, Nat.add_mul, ← hr]; omega
theorem repc_len {f : Nat → Nat → List T52} {l : Int × Int} {s : Nat} (hf : ∀ a fr, (f a fr).length = s) (r : Nat) (hr : r = s + (clr l).length) (mn mx : Int) (a fr : Nat) : (repc f l r mn mx a fr).length = mn.toNat * r + if mx = -1 then r + 4 else (mx - mn).toNat * (r + 3) := by
  unfold repc
  rw [List.length_append, mins_len hf r fr hr]
  split
  · rw [List.length_cons, List.length_append, frd_len hf, ← hr]; simp
  · rw [opts_len hf r fr _ hr]
theorem cdl_len : ∀ (l : List T27), (∀ k ∈ l, ∀ a fr, (cd k a fr).length = sz k) → ∀ a fr, (cdl l a fr).length = szl l
  | [], _, a, fr => by rw [cdl, szl]; rfl
  | x :: l, h, a, fr => by rw [cdl, szl, List.length_append, h x (by simp), cdl_len l fun k hk => h k (by simp [hk])]
theorem all_len : ∀ (l : List T27), (∀ k ∈ l, ∀ a fr, (cd k a fr).length = sz k) → ∀ e a fr, (all l e a fr).length = szl l + 2 * (l.length - 1)
  | [], _, e, a, fr => by rw [all, szl]; rfl
  | [x], h, e, a, fr => by rw [all, if_pos (show ([] : List T27).isEmpty = true from rfl), szl, szl, h x (by simp)]; simp
  | x :: y :: l, h, e, a, fr => by
    have e1 : szl (x :: y :: l) = sz x + szl (y :: l) := by rw [szl]
    rw [all, if_neg (by simp), List.length_cons, List.length_append, List.length_cons, h x (by simp), all_len (y :: l) (fun k hk => h k (by simp at hk ⊢; right; exact hk)), e1]
    simp; omega
theorem cd_len : ∀ (n : T27) (b : Nat), cnt n ≤ 100000 → good n b → ∀ a fr, (cd n a fr).length = sz n := by
  intro n
  induction n using tree_ind with
  | h n ih =>
    intro b hc hg a fr
    rw [good_eq] at hg
    have ih' : ∀ k ∈ ls n.Kids, ∀ a fr, (cd k a fr).length = sz k := fun k hk => by
      obtain ⟨b', hb'⟩ := goodl_mem hg.2 hk
      exact ih k hk b' (by have := cnt_kid hk; omega) hb'
    rw [cd_eq, sz_eq]
    rcases pl_kids hg.1.1 with ⟨h, hk⟩ | ⟨h, hm, hk⟩ | ⟨h, hk⟩ | ⟨h, hk⟩
    · rcases h with h | h
      · simp (config := {decide := true}) only [h, if_true, if_false]; exact cdl_len _ ih' _ _
      · simp (config := {decide := true}) only [h, if_true, if_false]; exact all_len _ ih' _ _ _
    · obtain ⟨k, hk⟩ : ∃ k, ls n.Kids = [k] := List.length_eq_one_iff.1 hk
      have hkm : k ∈ ls n.Kids := by simp [hk]
      obtain ⟨b', hb'⟩ := goodl_mem hg.2 hkm
      have hcl := clr_len (by have := cnt_kid hkm; omega) hb'
      simp (config := {decide := true}) only [h, if_true, if_false]
      rw [hk, rpl, repc_len (s := sz k) (ih' k hkm) _ (by rw [hcl]; rfl)]
      have e1 : szl [k] = sz k := by rw [szl, szl]; rfl
      have e2 : gcntl [k] = gcnt k := by rw [gcntl, gcntl]; rfl
      rw [e1, e2]; rfl
    · obtain ⟨k, hk⟩ : ∃ k, ls n.Kids = [k] := List.length_eq_one_iff.1 hk
      have hkm : k ∈ ls n.Kids := by simp [hk]
      simp (config := {decide := true}) only [h, if_true, if_false]
      have e1 : szl [k] = sz k := by rw [szl, szl]; rfl
      rw [hk, chl, List.length_cons, List.length_append, ih' k hkm, e1]; simp
    · rcases h with h | h | h | h | h <;> simp (config := {decide := true}) only [h, if_true, if_false, List.length_cons, List.length_nil]
end Go.Proofs.Ytjbafmnocopofaa
end
section
/-
  Nfa: Compile lays out just the program of the tree.
-/

namespace Go.Proofs.Ytjbafmnocopofaa
open Go AW
set_option linter.unusedVariables false
set_option linter.unusedSimpArgs false
set_option maxHeartbeats 4000000
def intz (L : List Nat) : List Int := L.map fun (n : Nat) => (n : Int)
theorem intz_len (L : List Nat) : (intz L).length = L.length := by simp [intz]
/-- A compiler: what it has laid out, its slots, its free rounds. -/
def Co (L : List T52) (s fr : Nat) : T65 := { code := so L, slots := (s : Int), free := (fr : Int) }
theorem co_code (L : List T52) (s fr : Nat) : ls (Co L s fr).code = L := ls_so L
theorem co_free (L : List T52) (s fr : Nat) : (Co L s fr).free = (fr : Int) := rfl
theorem vset_so {α : Type} (L : List α) (i : Nat) (v : α) : vset (so L) (i : Int) v = so (L.set i v) := by cases L <;> simp [so, vset] <;> cases i <;> rfl
theorem f27 (L : List T52) (s fr : Nat) (x : T52) (h : L.length ≤ 100000) : F27 (Co L s fr) x = some ((L.length : Int), Co (L ++ [x]) s fr) := by
  have e : ls (some [x]) = [x] := rfl
  unfold F27
  rw [co_code, if_pos (by rw [e]; simp; omega), e]
  have e2 : sapp (Co L s fr).code [x] = so (L ++ [x]) := sapp_so L [x]
  rw [e2, ls_so, List.length_append, List.length_singleton, wm1 _ (by omega) (by omega)]
  rfl
theorem set_mid {α : Type} (A B : List α) (x y : α) : (A ++ x :: B).set A.length y = A ++ y :: B := by simp
theorem get_mid {α : Type} (A B : List α) (x : α) : (A ++ x :: B)[A.length]? = some x := by simp
/-- What is asked of a tree. -/
def Pn (n : T27) : Prop := ∀ (L : List T52) (s fr : Nat), L.length + sz n ≤ 16384 → fr ≤ L.length → fr ≤ s → G26r (.e26 (Co L s fr) n) = some (Co (L ++ cd n L.length fr) (max s (fr + dep n)) fr)
def Ln (n : T27) : Prop := ∀ a fr, (cd n a fr).length = sz n
theorem p51 (n : T27) (hl : (ls n.Kids).length ≤ 100000) (ih : ∀ k ∈ ls n.Kids, Pn k ∧ Ln k) : ∀ (m i : Nat) (L : List T52) (s fr : Nat), m + i = (ls n.Kids).length → L.length + szl ((ls n.Kids).drop i) ≤ 16384 → fr ≤ L.length → fr ≤ s →
    G26r (.p51_1 n.Kids ((ls n.Kids).length : Int) (i : Int) (Co L s fr)) = some (Co (L ++ cdl ((ls n.Kids).drop i) L.length fr) (max s (fr + depl ((ls n.Kids).drop i))) fr)
  | 0, i, L, s, fr, h, hs, hf, hfs => by
    rw [G26r.eq_3, dfi (by omega), List.drop_of_length_le (by omega), cdl, depl, List.append_nil, Nat.add_zero, Nat.max_eq_left hfs]
  | m + 1, i, L, s, fr, h, hs, hf, hfs => by
    obtain ⟨k, hk⟩ := get_ex (ls n.Kids) (i := i) (by omega)
    obtain ⟨pk, lk⟩ := ih k (List.mem_of_getElem? hk)
    rw [drop_cons hk, szl] at hs
    have hlk := lk L.length fr
    have hll : (L ++ cd k L.length fr).length = L.length + sz k := by rw [List.length_append, hlk]
    rw [G26r.eq_3, dti (by omega), ixs hk, sm, pk L s fr (by omega) hf hfs, sm, wn1 i (by omega), p51 n hl ih m (i + 1) _ _ fr (by omega) (by omega) (by omega) (by omega), drop_cons hk, cdl, depl, hll, List.append_assoc]
    have e : max (max s (fr + dep k)) (fr + depl ((ls n.Kids).drop (i + 1))) = max s (fr + max (dep k) (depl ((ls n.Kids).drop (i + 1)))) := by omega
    rw [e]
/-! ### What is put in later -/
def pat (e : Nat) (C : List T52) (p : Nat) : List T52 := match C[p]? with
  | some x => C.set p { x with To := (e : Int) }
  | none => C
theorem pat_len (e : Nat) (C : List T52) (p : Nat) : (pat e C p).length = C.length := by unfold pat; split <;> simp
theorem pats_len (e : Nat) : ∀ (l : List Nat) (C : List T52), (l.foldl (pat e) C).length = C.length
  | [], C => rfl
  | p :: l, C => by rw [List.foldl_cons, pats_len e l, pat_len]
theorem pat_mid (e : Nat) (A B : List T52) (x : T52) : pat e (A ++ x :: B) A.length = A ++ { x with To := (e : Int) } :: B := by
  unfold pat; rw [get_mid]; simp only; rw [set_mid]
theorem pat_co {C : List T52} {p : Nat} {x : T52} (s fr : Nat) (h : C[p]? = some x) : ({ Co C s fr with code := (vset (Co C s fr).code (p : Int) ({ x with To := (C.length : Int) } : T52)) } : T65) = Co (pat C.length C p) s fr := by
  unfold pat; rw [h]; simp only [Co]; rw [vset_so]
theorem p53_2 (O : List Nat) (hO : O.length ≤ 1000000) : ∀ (m i : Nat) (C : List T52) (s fr : Nat), m + i = O.length → (∀ p ∈ O, p < C.length) →
    G26r (.p53_2 (so (intz O)) (O.length : Int) (i : Int) (Co C s fr)) = some (Co ((O.drop i).foldl (pat C.length) C) s fr)
  | 0, i, C, s, fr, h, hp => by
    rw [G26r.eq_7, dfi (by omega), List.drop_of_length_le (by omega)]; rfl
  | m + 1, i, C, s, fr, h, hp => by
    obtain ⟨p, hpi⟩ := get_ex O (i := i) (by omega)
    obtain ⟨x, hx⟩ := get_ex C (hp p (List.mem_of_getElem? hpi))
    rw [G26r.eq_7, dti (by omega), ls_so, ixs (c := (p : Int)) (by simp [intz, hpi]), sm, co_code, ixs hx, sm, pat_co s fr hx, wn1 i (by omega), p53_2 O hO m (i + 1) _ s fr (by omega) (by simpa [pat_len] using hp), pat_len, drop_cons hpi]; rfl
theorem p54_4 (O : List Nat) (hO : O.length ≤ 1000000) : ∀ (m i : Nat) (C : List T52) (s fr : Nat), m + i = O.length → (∀ p ∈ O, p < C.length) →
    G26r (.p54_4 (so (intz O)) (O.length : Int) (i : Int) (Co C s fr)) = some (Co ((O.drop i).foldl (pat C.length) C) s fr)
  | 0, i, C, s, fr, h, hp => by
    rw [G26r.eq_12, dfi (by omega), List.drop_of_length_le (by omega)]; rfl
  | m + 1, i, C, s, fr, h, hp => by
    obtain ⟨p, hpi⟩ := get_ex O (i := i) (by omega)
    obtain ⟨x, hx⟩ := get_ex C (hp p (List.mem_of_getElem? hpi))
    rw [G26r.eq_12, dti (by omega), ls_so, ixs (c := (p : Int)) (by simp [intz, hpi]), sm, co_code, ixs hx, sm, pat_co s fr hx, wn1 i (by omega), p54_4 O hO m (i + 1) _ s fr (by omega) (by simpa [pat_len] using hp), pat_len, drop_cons hpi]; rfl
/-! ### One of several -/
noncomputable def alf : List T27 → Nat → Nat → Nat → List T52
  | [], _, _, _ => []
  | x :: l, e, a, fr => iTo 2 ((a + sz x + 2 : Nat) : Int) :: (cd x (a + 1) fr ++ iTo 3 e :: alf l e (a + sz x + 2) fr)
def jps : List T27 → Nat → List Nat
  | [], _ => []
  | x :: l, a => (a + sz x + 1) :: jps l (a + sz x + 2)
theorem jps_len : ∀ (l : List T27) a, (jps l a).length = l.length
  | [], _ => rfl
  | x :: l, a => by rw [jps, List.length_cons, jps_len l, List.length_cons]
theorem alf_len : ∀ (l : List T27), (∀ k ∈ l, Ln k) → ∀ e a fr, (alf l e a fr).length = szl l + 2 * l.length
  | [], _, e, a, fr => by rw [alf, szl]; rfl
  | x :: l, h, e, a, fr => by
    rw [alf, List.length_cons, List.length_append, List.length_cons, h x (by simp), alf_len l (fun k hk => h k (by simp [hk])), szl]
    simp; omega
theorem all_front : ∀ (l : List T27) (k : T27) (e a fr : Nat), all (l ++ [k]) e a fr = alf l e a fr ++ cd k (a + szl l + 2 * l.length) fr
  | [], k, e, a, fr => by
    rw [List.nil_append, all, if_pos (show ([] : List T27).isEmpty = true from rfl), alf, szl]; rfl
  | x :: l, k, e, a, fr => by
    rw [List.cons_append, all, if_neg (by simp), all_front l k, alf, szl]
    have e1 : a + sz x + 2 + szl l + 2 * l.length = a + (sz x + szl l) + 2 * (x :: l).length := by simp; omega
    rw [e1]; simp
theorem jps_lt : ∀ (l : List T27) (a : Nat), ∀ p ∈ jps l a, p < a + szl l + 2 * l.length
  | [], a, p, h => by simp [jps] at h
  | x :: l, a, p, h => by
    rw [jps] at h
    rw [szl, List.length_cons]
    rcases List.mem_cons.1 h with rfl | h
    · omega
    · have := jps_lt l _ p h; omega
theorem alf_pat (e e0 fr : Nat) : ∀ (l : List T27), (∀ k ∈ l, Ln k) → ∀ (A B : List T52), (jps l A.length).foldl (pat e) (A ++ (alf l e0 A.length fr ++ B)) = A ++ (alf l e A.length fr ++ B)
  | [], _, A, B => by rw [jps, alf, alf]; rfl
  | x :: l, h, A, B => by
    have hx := h x (by simp) (A.length + 1) fr
    rw [jps, alf, alf, List.foldl_cons]
    have e1 : A ++ (iTo 2 ((A.length + sz x + 2 : Nat) : Int) :: (cd x (A.length + 1) fr ++ iTo 3 e0 :: alf l e0 (A.length + sz x + 2) fr) ++ B) = (A ++ iTo 2 ((A.length + sz x + 2 : Nat) : Int) :: cd x (A.length + 1) fr) ++ iTo 3 e0 :: (alf l e0 (A.length + sz x + 2) fr ++ B) := by simp
    have e2 : A.length + sz x + 1 = (A ++ iTo 2 ((A.length + sz x + 2 : Nat) : Int) :: cd x (A.length + 1) fr).length := by simp [hx]; omega
    rw [e1, e2, pat_mid]
    have e3 : (A ++ iTo 2 ((A.length + sz x + 2 : Nat) : Int) :: cd x (A.length + 1) fr) ++ iTo 3 e :: (alf l e0 (A.length + sz x + 2) fr ++ B) = (A ++ iTo 2 ((A.length + sz x + 2 : Nat) : Int) :: (cd x (A.length + 1) fr ++ [iTo 3 e])) ++ (alf l e0 (A.length + sz x + 2) fr ++ B) := by simp
    have e4 : A.length + sz x + 2 = (A ++ iTo 2 ((A.length + sz x + 2 : Nat) : Int) :: (cd x (A.length + 1) fr ++ [iTo 3 e])).length := by simp [hx]; omega
    have ihh := alf_pat e e0 fr l (fun k hk => h k (by simp [hk])) (A ++ iTo 2 ((A.length + sz x + 2 : Nat) : Int) :: (cd x (A.length + 1) fr ++ [iTo 3 e])) B
    rw [← e4] at ihh
    have e5 : (({ iTo 3 e0 with To := (e : Int) } : T52)) = iTo 3 e := rfl
    rw [e5, e3, ihh]
    simp
theorem depl_app : ∀ (l : List T27) (k : T27), depl (l ++ [k]) = max (depl l) (dep k)
  | [], k => by simp [depl]
  | x :: l, k => by rw [List.cons_append, depl, depl_app l, depl]; omega
theorem szl_app : ∀ (l : List T27) (k : T27), szl (l ++ [k]) = szl l + sz k
  | [], k => by simp [szl]
  | x :: l, k => by rw [List.cons_append, szl, szl_app l, szl]; omega
theorem p53_1 (n : T27) (last : Int) (W : Sl T27) (F : List T27) (hW : ls W = F) (hl : F.length ≤ 100000) (ih : ∀ k ∈ F, Pn k ∧ Ln k) : ∀ (m i : Nat) (L : List T52) (s fr : Nat) (O : List Nat), m + i = F.length → L.length + szl (F.drop i) + 2 * (F.drop i).length ≤ 16384 → fr ≤ L.length → fr ≤ s → O.length ≤ i →
    G26r (.p53_1 n last W (F.length : Int) (i : Int) (Co L s fr) (so (intz O))) = (ix (ls n.Kids) last >>= fun v => G26r (.e26 (Co (L ++ alf (F.drop i) 0 L.length fr) (max s (fr + depl (F.drop i))) fr) v) >>= fun r => G26r (.p53_2 (so (intz (O ++ jps (F.drop i) L.length))) ((O ++ jps (F.drop i) L.length).length : Int) 0 r))
  | 0, i, L, s, fr, O, h, hs, hf, hfs, hO => by
    rw [G26r.eq_6, dfi (by omega), List.drop_of_length_le (by omega), alf, depl, jps, List.append_nil, List.append_nil, Nat.add_zero, Nat.max_eq_left hfs, ls_so, intz_len]
  | m + 1, i, L, s, fr, O, h, hs, hf, hfs, hO => by
    obtain ⟨k, hk⟩ := get_ex F (i := i) (by omega)
    obtain ⟨pk, lk⟩ := ih k (List.mem_of_getElem? hk)
    have hdl : (F.drop i).length = (F.drop (i + 1)).length + 1 := by rw [drop_cons hk, List.length_cons]
    rw [hdl, drop_cons hk, szl] at hs
    have h1 : (L ++ [ik 2]).length = L.length + 1 := by simp
    have h2 : (L ++ [ik 2] ++ cd k (L.length + 1) fr).length = L.length + 1 + sz k := by rw [List.length_append, h1, lk]
    have e0 : ls (some [((L.length + 1 + sz k : Nat) : Int)]) = intz [L.length + 1 + sz k] := rfl
    have e1 : (so (intz O) : Sl Int) = so (intz O) := rfl
    rw [G26r.eq_6, dti (by omega), hW, ixs hk, sm, f27 L s fr _ (by omega), sm, pk (L ++ [ik 2]) s fr (by rw [h1]; omega) (by rw [h1]; omega) hfs, sm, h1, f27 (L ++ [ik 2] ++ cd k (L.length + 1) fr) _ _ _ (by rw [h2]; omega), sm, h2]
    rw [if_pos (by rw [ls_so]; simp [intz, ls]; omega), co_code]
    have e2 : L ++ [ik 2] ++ cd k (L.length + 1) fr ++ [ik 3] = L ++ ik 2 :: (cd k (L.length + 1) fr ++ [ik 3]) := by simp
    have e3 : (L ++ ik 2 :: (cd k (L.length + 1) fr ++ [ik 3])).length = L.length + sz k + 2 := by rw [List.length_append, List.length_cons, List.length_append, lk]; simp; omega
    simp only [e2]
    rw [ixs (get_mid L _ (ik 2)), sm, pat_co _ _ (get_mid L _ (ik 2)), e3, pat_mid, e0, sapp_so, wn1 i (by omega)]
    have e4 : intz O ++ intz [L.length + 1 + sz k] = intz (O ++ [L.length + 1 + sz k]) := by simp [intz]
    have e5 : (({ ik 2 with To := ((L.length + sz k + 2 : Nat) : Int) } : T52)) = iTo 2 ((L.length + sz k + 2 : Nat) : Int) := rfl
    have e6 : (L ++ iTo 2 ((L.length + sz k + 2 : Nat) : Int) :: (cd k (L.length + 1) fr ++ [ik 3])).length = L.length + sz k + 2 := by rw [List.length_append, List.length_cons, List.length_append, lk]; simp; omega
    rw [e4, e5, p53_1 n last W F hW hl ih m (i + 1) _ _ fr _ (by omega) (by omega) (by omega) (by omega) (by simp; omega), drop_cons hk, alf, depl, jps, e6]
    have e7 : L ++ iTo 2 ((L.length + sz k + 2 : Nat) : Int) :: (cd k (L.length + 1) fr ++ [ik 3]) ++ alf (F.drop (i + 1)) 0 (L.length + sz k + 2) fr = L ++ iTo 2 ((L.length + sz k + 2 : Nat) : Int) :: (cd k (L.length + 1) fr ++ iTo 3 ((0 : Nat) : Int) :: alf (F.drop (i + 1)) 0 (L.length + sz k + 2) fr) := by simp
    have e8 : O ++ [L.length + 1 + sz k] ++ jps (F.drop (i + 1)) (L.length + sz k + 2) = O ++ (L.length + sz k + 1) :: jps (F.drop (i + 1)) (L.length + sz k + 2) := by simp; omega
    have e9 : max (max s (fr + dep k)) (fr + depl (F.drop (i + 1))) = max s (fr + max (dep k) (depl (F.drop (i + 1)))) := by omega
    rw [e7, e8, e9]
end Go.Proofs.Ytjbafmnocopofaa
end
section
/-
  Nfa: Compile lays out just the program of the tree: repeats, and all together.
-/

namespace Go.Proofs.Ytjbafmnocopofaa
open Go AW
set_option linter.unusedVariables false
set_option linter.unusedSimpArgs false
set_option maxHeartbeats 4000000
theorem co_up (L : List T52) (s fr : Nat) (h : fr < 100000) : ({ Co L s fr with free := IntKind.wrap .i64 ((Co L s fr).free + 1), slots := (if (IntKind.wrap .i64 ((Co L s fr).free + 1)) > (Co L s fr).slots then (IntKind.wrap .i64 ((Co L s fr).free + 1)) else (Co L s fr).slots) } : T65) = Co L (max s (fr + 1)) (fr + 1) := by
  show ({ code := so L, slots := (if (IntKind.wrap .i64 ((fr : Int) + 1)) > (s : Int) then (IntKind.wrap .i64 ((fr : Int) + 1)) else (s : Int)), free := IntKind.wrap .i64 ((fr : Int) + 1) } : T65) = _
  rw [wn1 fr (by omega)]
  have : (if ((fr + 1 : Nat) : Int) > (s : Int) then ((fr + 1 : Nat) : Int) else (s : Int)) = ((max s (fr + 1) : Nat) : Int) := by split <;> omega
  rw [this]
  rfl
theorem co_down (L : List T52) (s fr : Nat) (h : fr < 100000) : ({ Co L s (fr + 1) with free := IntKind.wrap .i64 ((Co L s (fr + 1)).free - 1) } : T65) = Co L s fr := by
  simp only [Co]
  rw [wm1 (fr + 1) (by omega) (by omega)]
  rfl
/-- What is asked of a repeat's kid. -/
structure Kd (k : T27) : Prop where
  p : Pn k
  l : Ln k
  g : F38 k = some (lh k)
  c : (clr (lh k)).length = if gcnt k = 0 then 0 else 1
theorem clr_of {k : T27} (hk : Kd k) : sz k + (clr (lh k)).length = rsz k := by rw [hk.c]; rfl
theorem p59_1 {k : T27} (hk : Kd k) (free : Bool) (slot : Int) (L : List T52) (s fr : Nat) (h : L.length + rsz k ≤ 16384) :
    G26r (.p59_1 free k slot (Co L s fr)) = G26r (.p59_2 free k slot (Co (L ++ clr (lh k)) s fr)) := by
  rw [G26r.eq_14, hk.g, sm]
  unfold clr
  by_cases h0 : (lh k).1 > 0
  · rw [dti h0, f27 _ _ _ _ (by omega), sm, if_pos h0]
  · rw [dfi h0, if_neg h0, List.append_nil]
theorem p59_r {k : T27} (hk : Kd k) (L : List T52) (s fr : Nat) (h : L.length + rsz k ≤ 16384) (hf : fr ≤ L.length) (hfs : fr ≤ s) :
    G26r (.e59 (Co L s fr) k false) = some (Co (L ++ rnd (cd k) (lh k) L.length fr) (max s (fr + dep k)) fr) := by
  have hr := clr_of hk
  have hl : (L ++ clr (lh k)).length = L.length + (clr (lh k)).length := List.length_append
  rw [G26r.eq_13, if_neg (by simp), p59_1 hk _ _ _ _ _ h, G26r.eq_15, hk.p (L ++ clr (lh k)) s fr (by rw [hl]; omega) (by rw [hl]; omega) hfs, sm, if_neg (by simp), hl]
  unfold rnd
  rw [List.append_assoc]
theorem p59_f {k : T27} (hk : Kd k) (L : List T52) (s fr : Nat) (h : L.length + rsz k + 2 ≤ 16384) (hf : fr ≤ L.length) (hfs : fr ≤ s) :
    G26r (.e59 (Co L s fr) k true) = some (Co (L ++ frd (cd k) (lh k) L.length fr) (max s (fr + (dep k + 1))) fr) := by
  have hr := clr_of hk
  have h1 : (L ++ [iSl 7 fr]).length = L.length + 1 := by simp
  have hl : (L ++ [iSl 7 fr] ++ clr (lh k)).length = L.length + 1 + (clr (lh k)).length := by rw [List.length_append, h1]
  rw [G26r.eq_13, if_pos rfl, f27 _ _ _ _ (by omega), sm]
  have e1 := co_up (L ++ [iSl 7 fr]) s fr (by omega)
  refine Eq.trans (congrArg (fun c => G26r (.p59_1 true k (fr : Int) c)) e1) ?_
  rw [p59_1 hk _ _ _ _ _ (by rw [h1]; omega), G26r.eq_15, hk.p (L ++ [iSl 7 fr] ++ clr (lh k)) _ (fr + 1) (by rw [hl]; omega) (by rw [hl]; omega) (by omega), sm, if_pos rfl]
  have e2 := co_down (L ++ [iSl 7 fr] ++ clr (lh k) ++ cd k (L ++ [iSl 7 fr] ++ clr (lh k)).length (fr + 1)) (max (max s (fr + 1)) (fr + 1 + dep k)) fr (by omega)
  rw [e2, f27 _ _ _ _ (by rw [List.length_append, hk.l, hl]; omega), sm, hl]
  have e3 : max (max s (fr + 1)) (fr + 1 + dep k) = max s (fr + (dep k + 1)) := by omega
  rw [e3]
  unfold frd rnd
  simp
theorem len0 {f : Nat → Nat → List T52} {l : Int × Int} {s : Nat} (hf : ∀ a fr, (f a fr).length = s) (r fr : Nat) (hr : r = s + (clr l).length) (h0 : r = 0) (m a : Nat) : mins f l r fr m a = [] :=
  List.eq_nil_of_length_eq_zero (by rw [mins_len hf r fr hr, h0, Nat.mul_zero])
theorem p54_1 (n : T27) {k : T27} (hk : Kd k) (hks : ix (ls n.Kids) 0 = some k) (mn : Nat) (hmn : mn ≤ 255) : ∀ (m i : Nat) (L : List T52) (s fr : Nat), m + i = mn → L.length + m * rsz k ≤ 16384 → fr ≤ L.length → fr ≤ s →
    G26r (.p54_1 n (mn : Int) (i : Int) (Co L s fr)) = G26r (.p54_2 n (Co (L ++ mins (cd k) (lh k) (rsz k) fr m L.length) (if m = 0 then s else max s (fr + dep k)) fr))
  | 0, i, L, s, fr, h, hs, hf, hfs => by
    rw [G26r.eq_9, dfi (by omega), mins, List.append_nil, if_pos rfl]
  | m + 1, i, L, s, fr, h, hs, hf, hfs => by
    have hr := clr_of hk
    have hrl : (rnd (cd k) (lh k) L.length fr).length = rsz k := by rw [rnd_len hk.l]; exact hr
    rw [Nat.add_mul, Nat.one_mul] at hs
    rw [G26r.eq_9, dti (by omega), hks, sm, p59_r hk L s fr (by omega) hf hfs, sm, co_code, co_code, List.length_append, hrl]
    by_cases h0 : rsz k = 0
    · rw [eti (by omega), if_neg (by omega), mins, len0 hk.l (rsz k) fr hr.symm h0, List.append_nil]
    · rw [efi (by omega), wn1 i (by omega), p54_1 n hk hks mn hmn m (i + 1) _ _ fr (by omega) (by rw [List.length_append, hrl]; omega) (by rw [List.length_append]; omega) (by omega), mins, List.length_append, hrl, if_neg (by omega : ¬ m + 1 = 0), List.append_assoc]
      have e : (if m = 0 then max s (fr + dep k) else max (max s (fr + dep k)) (fr + dep k)) = max s (fr + dep k) := by split <;> omega
      rw [e]
def opp (r : Nat) : Nat → Nat → List Nat
  | 0, _ => []
  | m + 1, a => a :: opp r m (a + r + 3)
theorem opp_lt (r : Nat) : ∀ (m a : Nat), ∀ p ∈ opp r m a, p < a + m * (r + 3)
  | 0, a, p, h => by simp [opp] at h
  | m + 1, a, p, h => by
    rw [opp] at h
    rw [Nat.add_mul, Nat.one_mul]
    rcases List.mem_cons.1 h with rfl | h
    · omega
    · have := opp_lt r m _ p h; omega
theorem opp_len (r : Nat) : ∀ (m a : Nat), (opp r m a).length = m
  | 0, _ => rfl
  | m + 1, a => by rw [opp, List.length_cons, opp_len r m]
theorem opt_pat (k : T27) (hk : Kd k) (e e0 fr : Nat) : ∀ (m : Nat) (A B : List T52), (opp (rsz k) m A.length).foldl (pat e) (A ++ (opts (cd k) (lh k) (rsz k) fr e0 m A.length ++ B)) = A ++ (opts (cd k) (lh k) (rsz k) fr e m A.length ++ B)
  | 0, A, B => by rw [opp, opts, opts]; rfl
  | m + 1, A, B => by
    have hfl : ∀ a, (frd (cd k) (lh k) a fr).length = rsz k + 2 := fun a => by rw [frd_len hk.l]; have := clr_of hk; omega
    rw [opp, opts, opts, List.foldl_cons]
    have e1 : A ++ (iTo 2 e0 :: (frd (cd k) (lh k) (A.length + 1) fr ++ opts (cd k) (lh k) (rsz k) fr e0 m (A.length + rsz k + 3)) ++ B) = A ++ iTo 2 e0 :: (frd (cd k) (lh k) (A.length + 1) fr ++ (opts (cd k) (lh k) (rsz k) fr e0 m (A.length + rsz k + 3) ++ B)) := by simp
    rw [e1, pat_mid]
    have e5 : (({ iTo 2 e0 with To := (e : Int) } : T52)) = iTo 2 e := rfl
    have e3 : A ++ iTo 2 e :: (frd (cd k) (lh k) (A.length + 1) fr ++ (opts (cd k) (lh k) (rsz k) fr e0 m (A.length + rsz k + 3) ++ B)) = (A ++ iTo 2 e :: frd (cd k) (lh k) (A.length + 1) fr) ++ (opts (cd k) (lh k) (rsz k) fr e0 m (A.length + rsz k + 3) ++ B) := by simp
    have e4 : A.length + rsz k + 3 = (A ++ iTo 2 e :: frd (cd k) (lh k) (A.length + 1) fr).length := by simp [hfl]; omega
    have ihh := opt_pat k hk e e0 fr m (A ++ iTo 2 e :: frd (cd k) (lh k) (A.length + 1) fr) B
    rw [← e4] at ihh
    rw [e5, e3, ihh]
    simp
theorem p54_3 (n : T27) {k : T27} (hk : Kd k) (hks : ix (ls n.Kids) 0 = some k) (d : Nat) (hd : d ≤ 255) : ∀ (m i : Nat) (L : List T52) (s fr : Nat) (O : List Nat), m + i = d → L.length + m * (rsz k + 3) ≤ 16384 → fr ≤ L.length → fr ≤ s → O.length ≤ i →
    G26r (.p54_3 n (d : Int) (i : Int) (Co L s fr) (so (intz O))) = G26r (.p54_4 (so (intz (O ++ opp (rsz k) m L.length))) ((O ++ opp (rsz k) m L.length).length : Int) 0 (Co (L ++ opts (cd k) (lh k) (rsz k) fr 0 m L.length) (if m = 0 then s else max s (fr + (dep k + 1))) fr))
  | 0, i, L, s, fr, O, h, hs, hf, hfs, hO => by
    rw [G26r.eq_11, dfi (by omega), opts, List.append_nil, if_pos rfl, opp, List.append_nil, ls_so, intz_len]
  | m + 1, i, L, s, fr, O, h, hs, hf, hfs, hO => by
    have hfl : ∀ a, (frd (cd k) (lh k) a fr).length = rsz k + 2 := fun a => by rw [frd_len hk.l]; have := clr_of hk; omega
    rw [Nat.add_mul, Nat.one_mul] at hs
    have h1 : (L ++ [ik 2]).length = L.length + 1 := by simp
    have h2 : (L ++ [ik 2] ++ frd (cd k) (lh k) (L.length + 1) fr).length = L.length + rsz k + 3 := by rw [List.length_append, h1, hfl]; omega
    have e0 : ls (some [(L.length : Int)]) = intz [L.length] := rfl
    rw [G26r.eq_11, dti (by omega), f27 L s fr _ (by omega), sm, if_pos (by rw [ls_so]; simp [intz, ls]; omega), hks, sm, p59_f hk (L ++ [ik 2]) s fr (by rw [h1]; omega) (by rw [h1]; omega) hfs, sm, h1, e0, sapp_so, wn1 i (by omega)]
    have e4 : intz O ++ intz [L.length] = intz (O ++ [L.length]) := by simp [intz]
    rw [e4, p54_3 n hk hks d hd m (i + 1) _ _ fr _ (by omega) (by rw [h2]; omega) (by rw [h2]; omega) (by omega) (by simp; omega), h2, opp, opts, if_neg (by omega : ¬ m + 1 = 0)]
    have e : (if m = 0 then max s (fr + (dep k + 1)) else max (max s (fr + (dep k + 1))) (fr + (dep k + 1))) = max s (fr + (dep k + 1)) := by split <;> omega
    rw [e]
    have e7 : L ++ [ik 2] ++ frd (cd k) (lh k) (L.length + 1) fr ++ opts (cd k) (lh k) (rsz k) fr 0 m (L.length + rsz k + 3) = L ++ iTo 2 ((0 : Nat) : Int) :: (frd (cd k) (lh k) (L.length + 1) fr ++ opts (cd k) (lh k) (rsz k) fr 0 m (L.length + rsz k + 3)) := by simp
    have e8 : O ++ [L.length] ++ opp (rsz k) m (L.length + rsz k + 3) = O ++ L.length :: opp (rsz k) m (L.length + rsz k + 3) := by simp
    rw [e7, e8]
theorem p54_2 (n : T27) {k : T27} (hk : Kd k) (hks : ix (ls n.Kids) 0 = some k) (mn : Nat) (hmn : n.Min = mn) (hmm : mn ≤ 255 ∧ (n.Max = -1 ∨ (mn : Int) ≤ n.Max ∧ n.Max ≤ 255)) (L : List T52) (s fr : Nat) (h : L.length + (if n.Max = -1 then rsz k + 4 else (n.Max - n.Min).toNat * (rsz k + 3)) ≤ 16384) (hf : fr ≤ L.length) (hfs : fr ≤ s) :
    G26r (.p54_2 n (Co L s fr)) = some (Co (L ++ if n.Max = -1 then iTo 2 ((L.length + rsz k + 4 : Nat) : Int) :: (frd (cd k) (lh k) (L.length + 1) fr ++ [iTo 3 (L.length : Int)]) else opts (cd k) (lh k) (rsz k) fr (L.length + (n.Max - n.Min).toNat * (rsz k + 3)) (n.Max - n.Min).toNat L.length) (if n.Max = -1 ∨ n.Min < n.Max then max s (fr + (dep k + 1)) else s) fr) := by
  have hfl : ∀ a, (frd (cd k) (lh k) a fr).length = rsz k + 2 := fun a => by rw [frd_len hk.l]; have := clr_of hk; omega
  rw [G26r.eq_10]
  by_cases hx : n.Max = -1
  · rw [if_pos hx] at h
    have h1 : (L ++ [ik 2]).length = L.length + 1 := by simp
    have h2 : (L ++ [ik 2] ++ frd (cd k) (lh k) (L.length + 1) fr).length = L.length + rsz k + 3 := by rw [List.length_append, h1, hfl]; omega
    rw [eti hx, if_pos hx, if_pos (.inl hx), f27 L s fr _ (by omega), sm, hks, sm, p59_f hk (L ++ [ik 2]) s fr (by rw [h1]; omega) (by rw [h1]; omega) hfs, sm, h1, f27 _ _ _ _ (by rw [h2]; omega), sm, co_code]
    have e2 : L ++ [ik 2] ++ frd (cd k) (lh k) (L.length + 1) fr ++ [iTo 3 (L.length : Int)] = L ++ ik 2 :: (frd (cd k) (lh k) (L.length + 1) fr ++ [iTo 3 (L.length : Int)]) := by simp
    have e3 : (L ++ ik 2 :: (frd (cd k) (lh k) (L.length + 1) fr ++ [iTo 3 (L.length : Int)])).length = L.length + rsz k + 4 := by rw [List.length_append, List.length_cons, List.length_append, hfl]; simp; omega
    simp only [e2]
    rw [ixs (get_mid L _ (ik 2)), sm, pat_co _ _ (get_mid L _ (ik 2)), e3, pat_mid]
  · obtain ⟨d, hd⟩ : ∃ d : Nat, n.Max - n.Min = d := ⟨(n.Max - n.Min).toNat, by omega⟩
    rw [if_neg hx, hd, Int.toNat_natCast] at h
    rw [efi hx, if_neg hx, hd, wi _ (by omega) (by omega), Int.toNat_natCast]
    have h3 := p54_3 n hk hks d (by omega) d 0 L s fr [] (by omega) h hf hfs (by simp)
    have h3' : G26r (.p54_3 n (d : Int) 0 (Co L s fr) none) = _ := h3
    have hol : (opts (cd k) (lh k) (rsz k) fr 0 d L.length).length = d * (rsz k + 3) := opts_len hk.l _ _ _ (clr_of hk).symm d _
    have hlen : (L ++ opts (cd k) (lh k) (rsz k) fr 0 d L.length).length = L.length + d * (rsz k + 3) := by rw [List.length_append, hol]
    have hpl := opp_len (rsz k) d L.length
    have h4 := p54_4 (opp (rsz k) d L.length) (by omega) (opp (rsz k) d L.length).length 0 (L ++ opts (cd k) (lh k) (rsz k) fr 0 d L.length) (if d = 0 then s else max s (fr + (dep k + 1))) fr (by omega) (fun p hp => by rw [hlen]; exact opp_lt _ _ _ p hp)
    have h5 := opt_pat k hk (L.length + d * (rsz k + 3)) 0 fr d L []
    rw [List.append_nil, List.append_nil] at h5
    rw [h3', List.nil_append]
    have h4' : G26r (.p54_4 (so (intz (opp (rsz k) d L.length))) ((opp (rsz k) d L.length).length : Int) 0 (Co (L ++ opts (cd k) (lh k) (rsz k) fr 0 d L.length) (if d = 0 then s else max s (fr + (dep k + 1))) fr)) = _ := h4
    rw [h4', List.drop_zero, hlen, h5]
    have e : (if d = 0 then s else max s (fr + (dep k + 1))) = if n.Max = -1 ∨ n.Min < n.Max then max s (fr + (dep k + 1)) else s := by
      by_cases h0 : d = 0
      · rw [if_pos h0, if_neg (by omega)]
      · rw [if_neg h0, if_pos (by omega)]
    rw [e]
theorem compile : ∀ (n : T27) (b : Nat), cnt n ≤ 100000 → good n b → Pn n := by
  intro n
  induction n using tree_ind with
  | h n ih =>
    intro b hc hg L s fr hs hf hfs
    have hcl := cnt_eq n
    have hlen := cntl_len (ls n.Kids)
    have hln := cd_len n b hc hg
    rw [good_eq] at hg
    have ih' : ∀ k ∈ ls n.Kids, Kd k := fun k hk => by
      obtain ⟨b', hb'⟩ := goodl_mem hg.2 hk
      have := cnt_kid hk
      exact ⟨ih k hk b' (by omega) hb', cd_len k b' (by omega) hb', (f38 (by omega) hb').1, clr_len (by omega) hb'⟩
    have ihp : ∀ k ∈ ls n.Kids, Pn k ∧ Ln k := fun k hk => ⟨(ih' k hk).p, (ih' k hk).l⟩
    rw [G26r.eq_1]
    unfold F39
    rw [sm, cd_eq, dep_eq]
    rw [sz_eq] at hs
    have nok : ∀ (h : (ls n.Kids).length = 0), depl (ls n.Kids) = 0 := fun h => by rw [List.eq_nil_of_length_eq_zero h, depl]
    rcases pl_kids hg.1.1 with ⟨h, hk⟩ | ⟨h, hm, hk⟩ | ⟨h, hk⟩ | ⟨h, hk⟩
    · rcases h with h | h
      · simp (config := {decide := true}) only [h, if_true, if_false] at hs ⊢
        have := p51 n (by omega) ihp (ls n.Kids).length 0 L s fr (by omega) (by rw [List.drop_zero]; exact hs) hf hfs
        have this' : G26r (.p51_1 n.Kids ((ls n.Kids).length : Int) 0 (Co L s fr)) = _ := this
        rw [G26r.eq_2, this', sm, List.drop_zero]
      · simp (config := {decide := true}) only [h, if_true, if_false] at hs ⊢
        obtain ⟨F, k, hFk⟩ : ∃ F k, ls n.Kids = F ++ [k] := ⟨_, _, (List.dropLast_concat_getLast (by intro e; rw [e] at hk; simp at hk)).symm⟩
        obtain ⟨K, hK⟩ : ∃ K, n.Kids = some K := by
          cases e : n.Kids with
          | none => rw [e] at hk; simp [ls] at hk
          | some K => exact ⟨K, rfl⟩
        have hKl : K = F ++ [k] := by rw [hK] at hFk; exact hFk
        have hFl : (ls n.Kids).length = F.length + 1 := by rw [hFk]; simp
        have hcut : scut n.Kids 0 (IntKind.wrap .i64 (((ls n.Kids).length : Int) - 1)) = some (some F) := by
          rw [wm1 _ (by omega) (by omega), hFl, hK]
          simp only [scut]
          rw [if_pos (by rw [hKl]; simp; omega), hKl]
          simp
        have hixk : ix (ls n.Kids) (IntKind.wrap .i64 (((ls n.Kids).length : Int) - 1)) = some k := by
          rw [wm1 _ (by omega) (by omega), hFl, hFk]
          exact ixs (by simp)
        have hkm : k ∈ ls n.Kids := by rw [hFk]; simp
        have hFm : ∀ x ∈ F, Pn x ∧ Ln x := fun x hx => ihp x (by rw [hFk]; simp [hx])
        rw [hFl, hFk, szl_app] at hs
        have hal := alf_len F (fun x hx => (hFm x hx).2) 0 L.length fr
        have hL2 : (L ++ alf F 0 L.length fr).length = L.length + szl F + 2 * F.length := by rw [List.length_append, hal]; omega
        have h1 := p53_1 n (IntKind.wrap .i64 (((ls n.Kids).length : Int) - 1)) (some F) F rfl (by omega) hFm F.length 0 L s fr [] (by omega) (by rw [List.drop_zero]; omega) hf hfs (by simp)
        rw [List.drop_zero, List.nil_append] at h1
        have h1' : G26r (.p53_1 n (IntKind.wrap .i64 (((ls n.Kids).length : Int) - 1)) (some F) ((ls (some F)).length : Int) 0 (Co L s fr) none) = _ := h1
        rw [G26r.eq_5, hcut, sm, h1', hixk, sm, (ihp k hkm).1 (L ++ alf F 0 L.length fr) _ fr (by rw [hL2]; omega) (by rw [hL2]; omega) (by omega), sm, hL2]
        have hlk := (ihp k hkm).2 (L.length + szl F + 2 * F.length) fr
        have hC : (L ++ alf F 0 L.length fr ++ cd k (L.length + szl F + 2 * F.length) fr).length = L.length + szl F + 2 * F.length + sz k := by rw [List.length_append, hL2, hlk]
        have h2 := p53_2 (jps F L.length) (by rw [jps_len]; omega) (jps F L.length).length 0 _ (max (max s (fr + depl F)) (fr + dep k)) fr (by omega) (fun p hp => by rw [hC]; have := jps_lt F L.length p hp; omega)
        have h2' : G26r (.p53_2 (so (intz (jps F L.length))) ((jps F L.length).length : Int) 0 (Co (L ++ alf F 0 L.length fr ++ cd k (L.length + szl F + 2 * F.length) fr) (max (max s (fr + depl F)) (fr + dep k)) fr)) = _ := h2
        rw [h2', sm, List.drop_zero, hC, List.append_assoc, alf_pat _ _ _ F (fun x hx => (hFm x hx).2), hFk, all_front, depl_app, szl_app]
        have e1 : max (max s (fr + depl F)) (fr + dep k) = max s (fr + max (depl F) (dep k)) := by omega
        have e2 : L.length + (szl F + sz k) + 2 * ((F ++ [k]).length - 1) = L.length + szl F + 2 * F.length + sz k := by simp; omega
        rw [e1, e2]
    · simp (config := {decide := true}) only [h, if_true, if_false] at hs ⊢
      obtain ⟨k, hk⟩ : ∃ k, ls n.Kids = [k] := List.length_eq_one_iff.1 hk
      have hkd := ih' k (by simp [hk])
      have hks : ix (ls n.Kids) 0 = some k := by rw [hk]; rfl
      have e1 : szl [k] = sz k := by rw [szl, szl]; rfl
      have e2 : gcntl [k] = gcnt k := by rw [gcntl, gcntl]; rfl
      have e3 : depl [k] = dep k := by rw [depl, depl]; omega
      rw [hk, e1, e2] at hs
      have hs' : L.length + (n.Min.toNat * rsz k + if n.Max = -1 then rsz k + 4 else (n.Max - n.Min).toNat * (rsz k + 3)) ≤ 16384 := hs
      obtain ⟨mn, hmn⟩ := nat_of' hm.1
      have hmt : n.Min.toNat = mn := by omega
      rw [hmt] at hs'
      have hml := mins_len hkd.l (rsz k) fr (clr_of hkd).symm mn L.length
      have h1 := p54_1 n hkd hks mn (by omega) mn 0 L s fr (by omega) (by omega) hf hfs
      have h1' : G26r (.p54_1 n (mn : Int) 0 (Co L s fr)) = _ := h1
      have hL2 : (L ++ mins (cd k) (lh k) (rsz k) fr mn L.length).length = L.length + mn * rsz k := by rw [List.length_append, hml]
      have h2 := p54_2 n hkd hks mn hmn (by omega) (L ++ mins (cd k) (lh k) (rsz k) fr mn L.length) (if mn = 0 then s else max s (fr + dep k)) fr (by rw [hL2]; omega) (by rw [hL2]; omega) (by split <;> omega)
      rw [G26r.eq_8, hmn, h1', h2, sm, hL2, hk, rpl, ← hmn]
      unfold repc
      rw [hmt, e3, List.append_assoc]
      have e4 : (if n.Max = -1 ∨ n.Min < n.Max then max (if mn = 0 then s else max s (fr + dep k)) (fr + (dep k + 1)) else if mn = 0 then s else max s (fr + dep k)) = max s (fr + if n.Max = -1 ∨ n.Min < n.Max then dep k + 1 else if 0 < n.Min then dep k else 0) := by
        by_cases c1 : n.Max = -1 ∨ n.Min < n.Max
        · rw [if_pos c1, if_pos c1]; split <;> omega
        · rw [if_neg c1, if_neg c1]
          by_cases c2 : mn = 0
          · rw [if_pos c2, if_neg (by omega)]; omega
          · rw [if_neg c2, if_pos (by omega)]
      rw [e4]
    · simp (config := {decide := true}) only [h, if_true, if_false] at hs ⊢
      obtain ⟨k, hk⟩ : ∃ k, ls n.Kids = [k] := List.length_eq_one_iff.1 hk
      have hkd := ih' k (by simp [hk])
      have hks : ix (ls n.Kids) 0 = some k := by rw [hk]; rfl
      have e1 : szl [k] = sz k := by rw [szl, szl]; rfl
      have e3 : depl [k] = dep k := by rw [depl, depl]; omega
      rw [hk, e1] at hs
      have h1 : (L ++ [iGr 4 n.Group]).length = L.length + 1 := by simp
      rw [G26r.eq_4, f27 L s fr _ (by omega), sm, hks, sm, hkd.p (L ++ [iGr 4 n.Group]) s fr (by rw [h1]; omega) (by rw [h1]; omega) hfs, sm, f27 _ _ _ _ (by rw [List.length_append, hkd.l, h1]; omega), sm, sm, h1, hk, chl, e3]
      simp
    · have hd := nok hk
      have e0 : max s (fr + depl (ls n.Kids)) = s := by rw [hd]; omega
      rcases h with h | h | h | h | h <;> simp (config := {decide := true}) only [h, if_true, if_false, e0] at hs ⊢
      · unfold F46; rw [sm, List.append_nil]
      · unfold F47; rw [f27 L s fr _ (by omega), sm, sm]
      · unfold F50; rw [f27 L s fr _ (by omega), sm, sm]
      · unfold F48; rw [f27 L s fr _ (by omega), sm, sm]
      · unfold F49; rw [f27 L s fr _ (by omega), sm, sm]
/-- The program of a tree. -/
noncomputable def prg (n : T27) : T34 := { Groups := (gcnt n : Int), Slots := (dep n : Int), Code := some (cd n 0 0 ++ [ik 12]) }
theorem f10 (n : T27) : ∃ r : T34 × Int, F10 n = some r ∧ ∃ w : Int × Int, F9 n = some w ∧ r.2 = w.2 ∧ (w.2 ≠ 0 → r.1 = { Groups := 0, Slots := 0, Code := none }) ∧ (w.2 = 0 → good n 0 ∧ cnt n ≤ 8192 ∧ sz n < 16384 ∧ w.1 = ((sz n + 1 : Nat) : Int) ∧ r.1 = prg n) := by
  obtain ⟨w, hw, u, hu, h1, h2⟩ := f9 n
  unfold F10
  rw [hw, sm]
  by_cases h0 : w.2 = 0
  · have hu0 : u = 0 := by
      by_cases e : u = 0
      · exact e
      · have := h1 e; rw [this] at h0; exact h0
    obtain ⟨hg, hc, hwe⟩ := h2 hu0
    have hsz : sz n < 16384 := by
      by_cases e : sz n < 16384
      · exact e
      · rw [if_neg e] at hwe; rw [hwe] at h0; cases h0
    rw [if_pos hsz] at hwe
    have hcp := compile n 0 (by omega) hg [] 0 0 (by simp; omega) (by simp) (by omega)
    have hcp' : F26 ({ code := (none : Sl T52), slots := 0, free := 0 } : T65) n = _ := hcp
    have hl := cd_len n 0 (by omega) hg 0 0
    rw [nfi h0, hcp', sm, List.nil_append, f27 _ _ _ _ (by rw [List.length_nil, hl]; omega), sm, f28 n hc, sm]
    refine ⟨_, rfl, w, rfl, h0.symm, fun h => absurd h0 h, fun _ => ⟨hg, hc, hsz, by rw [hwe], ?_⟩⟩
    unfold prg Co
    simp only [List.length_nil, Nat.zero_add, Nat.zero_max]
    congr 1
    cases cd n 0 0 <;> rfl
  · rw [nti h0]
    exact ⟨_, rfl, w, rfl, rfl, fun _ => rfl, fun h => absurd h h0⟩
end Go.Proofs.Ytjbafmnocopofaa
end
section
/-
  Nfa: what Compile lays out is right.
-/


namespace Go.Proofs.Ytjbafmnocopofaa
open Go AW
set_option linter.unusedVariables false
set_option linter.unusedSimpArgs false
set_option linter.unusedSectionVars false
set_option maxHeartbeats 4000000
inductive Okx (hi G S : Nat) : T52 → Prop
  | set (s : Arr 4 Int) : Okx hi G S (iSet s)
  | to (k : Int) (t : Nat) : k = 2 ∨ k = 3 → t ≤ hi → Okx hi G S (iTo k (t : Int))
  | gr (k g : Int) : k = 4 ∨ k = 5 ∨ k = 9 → 1 ≤ g → g ≤ (G : Int) → Okx hi G S (iGr k g)
  | cl (g l : Int) : 1 ≤ g → g ≤ l → l ≤ (G : Int) → Okx hi G S (iCl g l)
  | sl (k : Int) (s : Nat) : k = 7 ∨ k = 8 → s < S → Okx hi G S (iSl k (s : Int))
  | be (k : Int) : k = 10 ∨ k = 11 → Okx hi G S (ik k)
theorem Okx.mono {hi G S hi' G' S' : Nat} {x : T52} (h : Okx hi G S x) (h1 : hi ≤ hi') (h2 : G ≤ G') (h3 : S ≤ S') : Okx hi' G' S' x := by
  cases h with
  | set s => exact .set s
  | to k t a b => exact .to k t a (by omega)
  | gr k g a b c => exact .gr k g a b (by omega)
  | cl g l a b c => exact .cl g l a b (by omega)
  | sl k s a b => exact .sl k s a (by omega)
  | be k a => exact .be k a
def AllOk (hi G S : Nat) (l : List T52) : Prop := ∀ x ∈ l, Okx hi G S x
theorem AllOk.nil {hi G S : Nat} : AllOk hi G S [] := fun x h => by simp at h
theorem AllOk.cons {hi G S : Nat} {x : T52} {l : List T52} (h : Okx hi G S x) (h' : AllOk hi G S l) : AllOk hi G S (x :: l) := fun y hy => by
  rcases List.mem_cons.1 hy with rfl | hy
  · exact h
  · exact h' y hy
theorem AllOk.app {hi G S : Nat} {l m : List T52} (h : AllOk hi G S l) (h' : AllOk hi G S m) : AllOk hi G S (l ++ m) := fun y hy => by
  rcases List.mem_append.1 hy with hy | hy
  · exact h y hy
  · exact h' y hy
theorem AllOk.mono {hi G S hi' G' S' : Nat} {l : List T52} (h : AllOk hi G S l) (h1 : hi ≤ hi') (h2 : G ≤ G') (h3 : S ≤ S') : AllOk hi' G' S' l := fun x hx => (h x hx).mono h1 h2 h3
def Ak (b : Nat) (k : T27) : Prop := ∀ a fr, AllOk (a + sz k) (b + gcnt k) (fr + dep k) (cd k a fr)
theorem cdl_ok (P : ∀ k b, Ak b k ∨ True) : ∀ (l : List T27) (b : Nat), (∀ k ∈ l, ∀ b, good k b → Ak b k) → goodl l b → ∀ a fr, AllOk (a + szl l) (b + gcntl l) (fr + depl l) (cdl l a fr)
  | [], b, _, _, a, fr => by rw [cdl]; exact .nil
  | x :: l, b, h, hg, a, fr => by
    rw [goodl] at hg
    rw [cdl, szl, gcntl, depl]
    exact (h x (by simp) b hg.1 a fr |>.mono (by omega) (by omega) (by omega)).app ((cdl_ok P l (b + gcnt x) (fun k hk => h k (by simp [hk])) hg.2 (a + sz x) fr).mono (by omega) (by omega) (by omega))
theorem all_ok : ∀ (l : List T27) (b : Nat), (∀ k ∈ l, ∀ b, good k b → Ak b k) → goodl l b → ∀ (e a fr : Nat), a + szl l + 2 * (l.length - 1) ≤ e → AllOk e (b + gcntl l) (fr + depl l) (all l e a fr)
  | [], b, _, _, e, a, fr, he => by rw [all]; exact .nil
  | [x], b, h, hg, e, a, fr, he => by
    rw [goodl] at hg
    have e1 : szl [x] = sz x := by simp [szl]
    rw [e1] at he
    rw [all, if_pos (show ([] : List T27).isEmpty = true from rfl), gcntl, depl]
    exact (h x (by simp) b hg.1 a fr).mono (by omega) (by omega) (by omega)
  | x :: y :: l, b, h, hg, e, a, fr, he => by
    rw [goodl] at hg
    have e1 : szl (x :: y :: l) = sz x + szl (y :: l) := by rw [szl]
    have e2 : gcntl (x :: y :: l) = gcnt x + gcntl (y :: l) := by rw [gcntl]
    have e3 : depl (x :: y :: l) = max (dep x) (depl (y :: l)) := by rw [depl]
    simp only [List.length_cons] at he
    rw [all, if_neg (by simp), e2, e3]
    refine .cons (.to 2 _ (.inl rfl) (by omega)) (.app ((h x (by simp) b hg.1 (a + 1) fr).mono (by omega) (by omega) (by omega)) (.cons (.to 3 _ (.inr rfl) (by omega)) ?_))
    exact (all_ok (y :: l) (b + gcnt x) (fun k hk => h k (by simp at hk ⊢; exact .inr hk)) hg.2 e (a + sz x + 2) fr (by simp only [List.length_cons]; omega)).mono (by omega) (by omega) (by omega)
section
variable {k : T27} {b : Nat} (hA : Ak b k) (hk : Kd k) (hl : lh k = (glo b (gcnt k), ghi b (gcnt k)))
include hA hk hl
theorem rnd_ok (a fr : Nat) : AllOk (a + rsz k) (b + gcnt k) (fr + dep k) (rnd (cd k) (lh k) a fr) := by
  have hr := clr_of hk
  refine .app ?_ ((hA (a + (clr (lh k)).length) fr).mono (by omega) (by omega) (by omega))
  rw [hl]
  unfold clr glo ghi
  by_cases h0 : gcnt k = 0
  · rw [if_pos h0, if_neg (by simp)]; exact .nil
  · rw [if_neg h0, if_neg h0, if_pos (show (b : Int) + 1 > 0 by omega)]
    exact .cons (.cl _ _ (by simp only; omega) (by simp only; omega) (by simp only; omega)) .nil
theorem frd_ok (a fr : Nat) : AllOk (a + rsz k + 2) (b + gcnt k) (fr + (dep k + 1)) (frd (cd k) (lh k) a fr) := by
  refine .cons (.sl 7 fr (.inl rfl) (by omega)) (.app ((rnd_ok hA hk hl (a + 1) (fr + 1)).mono (by omega) (by omega) (by omega)) (.cons (.sl 8 fr (.inr rfl) (by omega)) .nil))
theorem mins_ok (fr : Nat) : ∀ (m a : Nat), AllOk (a + m * rsz k) (b + gcnt k) (fr + dep k) (mins (cd k) (lh k) (rsz k) fr m a)
  | 0, a => by rw [mins]; exact .nil
  | m + 1, a => by
    rw [mins, Nat.add_mul, Nat.one_mul]
    exact .app ((rnd_ok hA hk hl a fr).mono (by omega) (by omega) (by omega)) ((mins_ok fr m (a + rsz k)).mono (by omega) (by omega) (by omega))
theorem opts_ok (fr e : Nat) : ∀ (m a : Nat), a + m * (rsz k + 3) ≤ e → AllOk e (b + gcnt k) (fr + (dep k + 1)) (opts (cd k) (lh k) (rsz k) fr e m a)
  | 0, a, h => by rw [opts]; exact .nil
  | m + 1, a, h => by
    rw [Nat.add_mul, Nat.one_mul] at h
    rw [opts]
    exact .cons (.to 2 e (.inl rfl) (by omega)) (.app ((frd_ok hA hk hl (a + 1) fr).mono (by omega) (by omega) (by omega)) (opts_ok fr e m (a + rsz k + 3) (by omega)))
theorem repc_ok (mn mx : Int) (h0 : 0 ≤ mn) (hm : mx = -1 ∨ mn ≤ mx) (a fr : Nat) : AllOk (a + (mn.toNat * rsz k + if mx = -1 then rsz k + 4 else (mx - mn).toNat * (rsz k + 3))) (b + gcnt k) (fr + (if mx = -1 ∨ mn < mx then dep k + 1 else if 0 < mn then dep k else 0)) (repc (cd k) (lh k) (rsz k) mn mx a fr) := by
  unfold repc
  refine .app ?_ ?_
  · by_cases hz : mn.toNat = 0
    · rw [hz, mins]; exact .nil
    · refine (mins_ok hA hk hl fr mn.toNat a).mono (by omega) (by omega) ?_
      split
      · omega
      · rw [if_pos (by omega)]; omega
  · by_cases hx : mx = -1
    · rw [if_pos hx, if_pos hx, if_pos (.inl hx)]
      refine .cons (.to 2 _ (.inl rfl) (by omega)) (.app ((frd_ok hA hk hl (a + mn.toNat * rsz k + 1) fr).mono (by omega) (by omega) (by omega)) (.cons (.to 3 _ (.inr rfl) (by omega)) .nil))
    · rw [if_neg hx, if_neg hx]
      by_cases hz : (mx - mn).toNat = 0
      · rw [hz, opts]; exact .nil
      · rw [if_pos (by omega)]
        exact (opts_ok hA hk hl fr _ (mx - mn).toNat (a + mn.toNat * rsz k) (Nat.le_refl _)).mono (by omega) (by omega) (by omega)
end
theorem cd_ok : ∀ (n : T27) (b : Nat), cnt n ≤ 100000 → good n b → Ak b n := by
  intro n
  induction n using tree_ind with
  | h n ih =>
    intro b hc hg a fr
    have hcl := cnt_eq n
    have hgc := gcnt_eq n
    rw [good_eq] at hg
    have ih' : ∀ k ∈ ls n.Kids, ∀ b, good k b → Ak b k := fun k hk b hb => ih k hk b (by have := cnt_kid hk; omega) hb
    rw [cd_eq, dep_eq, sz_eq]
    rcases pl_kids hg.1.1 with ⟨h, hk⟩ | ⟨h, hm, hk⟩ | ⟨h, hk⟩ | ⟨h, hk⟩
    · rcases h with h | h
      · simp (config := {decide := true}) only [h, if_true, if_false, Nat.add_zero, Nat.zero_add] at hg hgc ⊢
        rw [hgc]
        exact cdl_ok (fun _ _ => .inr trivial) _ b ih' hg.2 a fr
      · simp (config := {decide := true}) only [h, if_true, if_false, Nat.add_zero, Nat.zero_add] at hg hgc ⊢
        rw [hgc, ← Nat.add_assoc]
        exact all_ok _ b ih' hg.2 _ a fr (Nat.le_refl _)
    · obtain ⟨k, hk⟩ : ∃ k, ls n.Kids = [k] := List.length_eq_one_iff.1 hk
      have hkm : k ∈ ls n.Kids := by simp [hk]
      have hck := cnt_kid hkm
      simp (config := {decide := true}) only [h, if_true, if_false, Nat.add_zero, Nat.zero_add] at hg hgc ⊢
      rw [hk, goodl, goodl] at hg
      have hgk := hg.2.1
      have hkd : Kd k := ⟨compile k b (by omega) hgk, cd_len k b (by omega) hgk, (f38 (by omega) hgk).1, clr_len (by omega) hgk⟩
      have := repc_ok (ih' k hkm b hgk) hkd (f38 (by omega) hgk).2 n.Min n.Max (by omega) (by omega) a fr
      have e1 : szl [k] = sz k := by simp [szl]
      have e2 : gcntl [k] = gcnt k := by simp [gcntl]
      have e3 : depl [k] = dep k := by simp [depl]
      rw [hgc, hk, rpl, e1, e2, e3]
      exact this
    · obtain ⟨k, hk⟩ : ∃ k, ls n.Kids = [k] := List.length_eq_one_iff.1 hk
      have hkm : k ∈ ls n.Kids := by simp [hk]
      simp (config := {decide := true}) only [h, if_true, if_false, Nat.add_zero, Nat.zero_add] at hg hgc ⊢
      rw [hk, goodl, goodl] at hg
      have hgr := (hg.1.2.1 h).1
      have e1 : szl [k] = sz k := by simp [szl]
      have e2 : gcntl [k] = gcnt k := by simp [gcntl]
      have e3 : depl [k] = dep k := by simp [depl]
      rw [hgc, hk, chl, e1, e2, e3]
      exact .cons (.gr 4 _ (.inl rfl) (by omega) (by omega)) (.app ((ih' k hkm _ hg.2.1 (a + 1) fr).mono (by omega) (by omega) (by omega)) (.cons (.gr 5 _ (.inr (.inl rfl)) (by omega) (by omega)) .nil))
    · rcases h with h | h | h | h | h <;> simp (config := {decide := true}) only [h, if_true, if_false]
      · exact .nil
      · exact .cons (.set _) .nil
      · have := hg.1.2.2 h
        exact .cons (.gr 9 _ (.inr (.inr rfl)) (by omega) (by omega)) .nil
      · exact .cons (.be 10 (.inl rfl)) .nil
      · exact .cons (.be 11 (.inr rfl)) .nil
/-! ### Bounds -/
theorem gcnt_99 : ∀ (n : T27) (b : Nat), good n b → gcnt n = 0 ∨ b + gcnt n ≤ 99 := by
  intro n
  induction n using tree_ind with
  | h n ih =>
    intro b hg
    rw [good_eq] at hg
    rw [gcnt_eq]
    have key : ∀ (l : List T27) (b : Nat), (∀ k ∈ l, ∀ b, good k b → gcnt k = 0 ∨ b + gcnt k ≤ 99) → goodl l b → gcntl l = 0 ∨ b + gcntl l ≤ 99 := by
      intro l
      induction l with
      | nil => intro b _ _; left; rw [gcntl]
      | cons x l ihl =>
        intro b h hg
        rw [goodl] at hg
        have h1 := h x (by simp) b hg.1
        have h2 := ihl (b + gcnt x) (fun k hk => h k (by simp [hk])) hg.2
        rw [gcntl]; omega
    have := key _ _ ih hg.2
    by_cases h6 : n.Kind = 6
    · have h99 := (hg.1.2.1 h6).2
      rw [if_pos h6] at this ⊢; omega
    · rw [if_neg h6] at this ⊢; omega
theorem dep_sz : ∀ (n : T27) (b : Nat), good n b → dep n ≤ sz n := by
  intro n
  induction n using tree_ind with
  | h n ih =>
    intro b hg
    rw [good_eq] at hg
    have ih' : ∀ k ∈ ls n.Kids, dep k ≤ sz k := fun k hk => by
      obtain ⟨b', hb'⟩ := goodl_mem hg.2 hk
      exact ih k hk b' hb'
    have key : ∀ (l : List T27), (∀ k ∈ l, dep k ≤ sz k) → depl l ≤ szl l := by
      intro l
      induction l with
      | nil => intro _; rw [depl, szl]; omega
      | cons x l ihl => intro h; have := h x (by simp); have := ihl fun k hk => h k (by simp [hk]); rw [depl, szl]; omega
    have hd := key _ ih'
    rw [dep_eq, sz_eq]
    rcases pl_kids hg.1.1 with ⟨h, hk⟩ | ⟨h, hm, hk⟩ | ⟨h, hk⟩ | ⟨h, hk⟩
    · rcases h with h | h <;> simp (config := {decide := true}) only [h, if_true, if_false] <;> omega
    · simp (config := {decide := true}) only [h, if_true, if_false]
      generalize (if gcntl (ls n.Kids) = 0 then 0 else 1) = c
      by_cases hx : n.Max = -1
      · rw [if_pos (.inl hx), if_pos hx]; omega
      · rw [if_neg hx]
        by_cases h1 : n.Min < n.Max
        · rw [if_pos (.inr h1)]
          have : szl (ls n.Kids) + c + 3 ≤ (n.Max - n.Min).toNat * (szl (ls n.Kids) + c + 3) := Nat.le_mul_of_pos_left _ (by omega)
          omega
        · rw [if_neg (by omega)]
          by_cases h2 : 0 < n.Min
          · rw [if_pos h2]
            have : szl (ls n.Kids) + c ≤ n.Min.toNat * (szl (ls n.Kids) + c) := Nat.le_mul_of_pos_left _ (by omega)
            omega
          · rw [if_neg h2]; omega
    · simp (config := {decide := true}) only [h, if_true, if_false]; omega
    · have : depl (ls n.Kids) = 0 := by rw [List.eq_nil_of_length_eq_zero hk, depl]
      rcases h with h | h | h | h | h <;> simp (config := {decide := true}) only [h, if_true, if_false] <;> omega
theorem okx_fit {p : T34} {hi G S : Nat} {x : T52} (h : Okx hi G S x) (h1 : hi < (ls p.Code).length) (h2 : p.Groups = (G : Int)) (h3 : p.Slots = (S : Int)) : fit p x = true ∧ x.Kind ≠ 12 := by
  unfold fit
  cases h with
  | set s => exact ⟨by simp, by show (1 : Int) ≠ 12; decide⟩
  | to k t a b => rcases a with rfl | rfl <;> refine ⟨by simp; omega, by simp⟩
  | gr k g a b c => rcases a with rfl | rfl | rfl <;> refine ⟨by simp; omega, by simp⟩
  | cl g l a b c => exact ⟨by simp; omega, by show (6 : Int) ≠ 12; decide⟩
  | sl k s a b => rcases a with rfl | rfl <;> refine ⟨by simp; omega, by simp⟩
  | be k a => rcases a with rfl | rfl <;> refine ⟨by simp, by simp⟩
theorem fits_app {p : T34} : ∀ (l : List T52) (i : Nat), (∀ x ∈ l, fit p x = true ∧ x.Kind ≠ 12) → i + l.length + 1 = (ls p.Code).length → fits p i (l ++ [ik 12]) = true
  | [], i, _, h => by
    have : fit p (ik 12) = true := by unfold fit; simp
    rw [List.nil_append, fits, fits, this]
    simp at h
    simp [h]
  | x :: l, i, hx, h => by
    obtain ⟨h1, h2⟩ := hx x (by simp)
    simp only [List.length_cons] at h
    rw [List.cons_append, fits, h1, fits_app l (i + 1) (fun y hy => hx y (by simp [hy])) (by omega), decide_eq_false (by omega)]
    simp [h2]
theorem rp_prg {n : T27} (hg : good n 0) (hc : cnt n ≤ 8192) (hs : sz n < 16384) : rp (prg n) = true := by
  have hl := cd_len n 0 (by omega) hg 0 0
  have hok := cd_ok n 0 (by omega) hg 0 0
  have h99 := gcnt_99 n 0 hg
  have hd := dep_sz n 0 hg
  have hcode : ls (prg n).Code = cd n 0 0 ++ [ik 12] := rfl
  have hlen : (ls (prg n).Code).length = sz n + 1 := by rw [hcode, List.length_append, hl]; rfl
  unfold rp
  rw [hlen, decide_eq_true (by show 0 ≤ ((gcnt n : Nat) : Int) ∧ ((gcnt n : Nat) : Int) ≤ 99 ∧ 0 ≤ ((dep n : Nat) : Int) ∧ ((dep n : Nat) : Int) ≤ 16384 ∧ _; omega), hcode, Bool.true_and]
  apply fits_app
  · intro x hx
    exact okx_fit (hok x hx) (by rw [hlen]; omega) (by show ((gcnt n : Nat) : Int) = _; omega) (by show ((dep n : Nat) : Int) = _; omega)
  · rw [hl, hlen]; omega
end Go.Proofs.Ytjbafmnocopofaa
end
section
/-
  Nfa: runs through a part of a program; parts that are alike but for their place.
-/


namespace Go.Proofs.Ytjbafmnocopofaa
open Go AW
set_option linter.unusedVariables false
set_option linter.unusedSimpArgs false
set_option linter.unusedSectionVars false
set_option maxHeartbeats 4000000
/-- One step of a run. -/
def stp (C : List T52) (s : Str) (q i q' j : Nat) : Prop := (q' = q ∧ j ∈ eps C s.length q i) ∨ (q' = q + 1 ∧ j = i + 1 ∧ hit C s q i = true)
/-- A run whose steps all begin within a part. -/
inductive InP (C : List T52) (s : Str) (a m q0 i0 : Nat) : Nat → Nat → Prop
  | refl : InP C s a m q0 i0 q0 i0
  | step {q i q' j : Nat} : InP C s a m q0 i0 q i → a ≤ i → i < a + m → stp C s q i q' j → InP C s a m q0 i0 q' j
def Seg (C : List T52) (s : Str) (a m q q' : Nat) : Prop := InP C s a m q a q' (a + m)
theorem InP.trans {C : List T52} {s : Str} {a m q0 i0 q1 i1 q2 i2 : Nat} (h : InP C s a m q0 i0 q1 i1) (h' : InP C s a m q1 i1 q2 i2) : InP C s a m q0 i0 q2 i2 := by
  induction h' with
  | refl => exact h
  | step _ h1 h2 h3 ih => exact .step ih h1 h2 h3
theorem InP.sub {C : List T52} {s : Str} {a m a' m' q0 i0 q1 i1 : Nat} (h : InP C s a m q0 i0 q1 i1) (h1 : a' ≤ a) (h2 : a + m ≤ a' + m') : InP C s a' m' q0 i0 q1 i1 := by
  induction h with
  | refl => exact .refl
  | step _ h3 h4 h5 ih => exact .step ih (by omega) (by omega) h5
theorem hit_some {C : List T52} {s : Str} {q i : Nat} (h : hit C s q i = true) : ∃ x b, C[i]? = some x ∧ s[q]? = some b ∧ x.Kind = 1 ∧ hasB x.Set b = true := by
  unfold hit at h
  split at h
  · rename_i x b hx hb
    simp only [Bool.and_eq_true, beq_iff_eq] at h
    exact ⟨x, b, hx, hb, h.1, h.2⟩
  · cases h
theorem eps_none {C : List T52} {len q i j : Nat} (h : j ∈ eps C len q i) : ∃ x, C[i]? = some x ∧ x.Kind ≠ 12 := by
  unfold eps at h
  split at h
  · simp at h
  · rename_i x hx
    refine ⟨x, hx, fun e => ?_⟩
    rw [if_neg (by omega), if_pos e] at h
    simp at h
theorem cf_inp {C B : List T52} (hC : C = B ++ [ik 12]) {s : Str} {fr q j : Nat} : Cf C s fr q j ↔ InP C s 0 B.length fr 0 q j := by
  have lt : ∀ i x, C[i]? = some x → x.Kind ≠ 12 → i < B.length := by
    intro i x hx hk
    have h1 := ge_lt hx
    rw [hC] at h1 hx
    simp at h1
    by_cases e : i = B.length
    · subst e; simp at hx; subst hx; exact absurd rfl hk
    · omega
  constructor
  · intro h
    induction h with
    | start => exact .refl
    | eps _ e ih =>
      obtain ⟨x, hx, hk⟩ := eps_none e
      exact .step ih (by omega) (by have := lt _ x hx hk; omega) (.inl ⟨rfl, e⟩)
    | chr _ h1 h2 h3 h4 ih => exact .step ih (by omega) (by have := lt _ _ h1 (by omega); omega) (.inr ⟨rfl, rfl, by rw [hit_is h1 h2 h3]; exact h4⟩)
  · intro h
    induction h with
    | refl => exact .start
    | step _ _ _ h ih =>
      rcases h with ⟨rfl, e⟩ | ⟨rfl, rfl, e⟩
      · exact .eps ih e
      · obtain ⟨x, b, h1, h2, h3, h4⟩ := hit_some e
        exact .chr ih h1 h3 h2 h4

/-! ### Parts that are alike -/
structure Sm (m a a' : Nat) (x x' : T52) : Prop where
  kind : x.Kind = x'.Kind
  set : x.Set = x'.Set
  to : x.Kind = 2 ∨ x.Kind = 3 → ∃ t : Nat, t ≤ m ∧ x.To = ((a + t : Nat) : Int) ∧ x'.To = ((a' + t : Nat) : Int)
def SmL (m a a' : Nat) (l l' : List T52) : Prop := l.length = l'.length ∧ ∀ (i : Nat) (x x' : T52), l[i]? = some x → l'[i]? = some x' → Sm m a a' x x'
theorem Sm.symm {m a a' : Nat} {x x' : T52} (h : Sm m a a' x x') : Sm m a' a x' x := ⟨h.kind.symm, h.set.symm, fun k => by
  obtain ⟨t, h1, h2, h3⟩ := h.to (by rw [h.kind]; exact k)
  exact ⟨t, h1, h3, h2⟩⟩
theorem SmL.symm {m a a' : Nat} {l l' : List T52} (h : SmL m a a' l l') : SmL m a' a l' l := ⟨h.1.symm, fun i x x' h1 h2 => (h.2 i x' x h2 h1).symm⟩
theorem Sm.mono {m a a' o M : Nat} {x x' : T52} (h : Sm m (a + o) (a' + o) x x') (hm : o + m ≤ M) : Sm M a a' x x' := ⟨h.kind, h.set, fun k => by
  obtain ⟨t, h1, h2, h3⟩ := h.to k
  exact ⟨o + t, by omega, by rw [h2, Nat.add_assoc], by rw [h3, Nat.add_assoc]⟩⟩
theorem SmL.mono {m a a' o M : Nat} {l l' : List T52} (h : SmL m (a + o) (a' + o) l l') (hm : o + m ≤ M) : SmL M a a' l l' := ⟨h.1, fun i x x' h1 h2 => (h.2 i x x' h1 h2).mono hm⟩
theorem SmL.nil {m a a' : Nat} : SmL m a a' [] [] := ⟨rfl, fun i x x' h => by simp at h⟩
theorem SmL.cons {m a a' : Nat} {x x' : T52} {l l' : List T52} (h : Sm m a a' x x') (hl : SmL m a a' l l') : SmL m a a' (x :: l) (x' :: l') := ⟨by simp [hl.1], fun i y y' h1 h2 => by
  cases i with
  | zero => simp at h1 h2; subst h1; subst h2; exact h
  | succ i => exact hl.2 i y y' (by simpa using h1) (by simpa using h2)⟩
theorem SmL.app {m a a' : Nat} {l l' k k' : List T52} (h : SmL m a a' l l') (hk : SmL m a a' k k') : SmL m a a' (l ++ k) (l' ++ k') := ⟨by simp [h.1, hk.1], fun i y y' h1 h2 => by
  by_cases hi : i < l.length
  · rw [List.getElem?_append_left hi] at h1
    rw [List.getElem?_append_left (by rw [← h.1]; exact hi)] at h2
    exact h.2 i y y' h1 h2
  · rw [List.getElem?_append_right (by omega)] at h1
    rw [List.getElem?_append_right (by rw [← h.1]; omega), ← h.1] at h2
    exact hk.2 _ y y' h1 h2⟩
theorem sm_same {m a a' : Nat} {x : T52} (h : x.Kind ≠ 2 ∧ x.Kind ≠ 3) : Sm m a a' x x := ⟨rfl, rfl, fun k => by omega⟩
theorem sm_sl {m a a' : Nat} (k : Int) (f f' : Int) (h : k ≠ 2 ∧ k ≠ 3) : Sm m a a' (iSl k f) (iSl k f') := ⟨rfl, rfl, fun e => by
  have e' : k = 2 ∨ k = 3 := e
  omega⟩
theorem sm_to {m a a' t : Nat} (k : Int) (h : t ≤ m) {u u' : Int} (hu : u = ((a + t : Nat) : Int)) (hu' : u' = ((a' + t : Nat) : Int)) : Sm m a a' (iTo k u) (iTo k u') := ⟨rfl, rfl, fun _ => ⟨t, h, hu, hu'⟩⟩
/-- A part lies at a place. -/
def At (C : List T52) (a : Nat) (l : List T52) : Prop := ∀ (i : Nat) (x : T52), l[i]? = some x → C[a + i]? = some x
theorem stp_sm {C C' l l' : List T52} {a a' m : Nat} (h : At C a l) (h' : At C' a' l') (hs : SmL m a a' l l') (hl : l.length = m) {s : Str} {q i q' j : Nat} (hi : i < m) (hst : stp C s q (a + i) q' j) : ∃ j', j = a + j' ∧ j' ≤ m ∧ stp C' s q (a' + i) q' (a' + j') := by
  obtain ⟨x, hx⟩ := get_ex l (i := i) (by omega)
  obtain ⟨x', hx'⟩ := get_ex l' (i := i) (by rw [← hs.1]; omega)
  obtain ⟨k1, k2, k3⟩ := hs.2 i x x' hx hx'
  have c := h i x hx
  have c' := h' i x' hx'
  rcases hst with ⟨rfl, e⟩ | ⟨rfl, rfl, e⟩
  · unfold eps at e
    rw [c] at e
    simp only at e
    have nx : j = a + i + 1 → ((i + 1 : Nat) ≤ m) ∧ j = a + (i + 1) := fun e => ⟨by omega, by omega⟩
    have go : ∀ j', a' + j' ∈ eps C' s.length q' (a' + i) → j = a + j' → j' ≤ m → ∃ j', j = a + j' ∧ j' ≤ m ∧ stp C' s q' (a' + i) q' (a' + j') := fun j' h1 h2 h3 => ⟨j', h2, h3, .inl ⟨rfl, h1⟩⟩
    unfold eps at go
    rw [c'] at go
    simp only [← k1] at go
    by_cases h1 : x.Kind = 1
    · rw [if_pos h1] at e; simp at e
    by_cases h12 : x.Kind = 12
    · rw [if_neg h1, if_pos h12] at e; simp at e
    rw [if_neg h1, if_neg h12] at e
    simp only [if_neg h1, if_neg h12] at go
    by_cases h2 : x.Kind = 2
    · obtain ⟨t, ht, e1, e2⟩ := k3 (.inl h2)
      rw [if_pos h2, e1] at e
      simp only [if_pos h2, e2] at go
      simp at e
      rcases e with e | e
      · exact go (i + 1) (by simp; left; omega) (by omega) (by omega)
      · exact go t (by simp; omega) (by omega) ht
    rw [if_neg h2] at e
    simp only [if_neg h2] at go
    by_cases h3 : x.Kind = 3
    · obtain ⟨t, ht, e1, e2⟩ := k3 (.inr h3)
      rw [if_pos h3, e1] at e
      simp only [if_pos h3, e2] at go
      simp at e
      exact go t (by simp; omega) (by omega) ht
    rw [if_neg h3] at e
    simp only [if_neg h3] at go
    by_cases h10 : x.Kind = 10
    · rw [if_pos h10] at e
      simp only [if_pos h10] at go
      by_cases hq : q' = 0
      · rw [if_pos hq] at e
        simp only [if_pos hq] at go
        simp at e
        exact go (i + 1) (by simp; omega) (by omega) (by omega)
      · rw [if_neg hq] at e; simp at e
    rw [if_neg h10] at e
    simp only [if_neg h10] at go
    by_cases h11 : x.Kind = 11
    · rw [if_pos h11] at e
      simp only [if_pos h11] at go
      by_cases hq : q' = s.length
      · rw [if_pos hq] at e
        simp only [if_pos hq] at go
        simp at e
        exact go (i + 1) (by simp; omega) (by omega) (by omega)
      · rw [if_neg hq] at e; simp at e
    rw [if_neg h11] at e
    simp only [if_neg h11] at go
    simp at e
    exact go (i + 1) (by simp; omega) (by omega) (by omega)
  · refine ⟨i + 1, by omega, by omega, .inr ⟨rfl, by omega, ?_⟩⟩
    obtain ⟨y, b, h1, h2, h3, h4⟩ := hit_some e
    rw [c] at h1
    cases h1
    rw [hit_is c' (by rw [← k1]; exact h3) h2, ← k2]
    exact h4
theorem inp_sm {C C' l l' : List T52} {a a' m : Nat} (h : At C a l) (h' : At C' a' l') (hs : SmL m a a' l l') (hl : l.length = m) {s : Str} {q0 i0 q j : Nat} (hi : i0 ≤ m) (hst : InP C s a m q0 (a + i0) q j) : ∃ j', j = a + j' ∧ j' ≤ m ∧ InP C' s a' m q0 (a' + i0) q (a' + j') := by
  generalize he : a + i0 = k at hst
  induction hst with
  | refl => exact ⟨i0, he.symm, hi, .refl⟩
  | step _ h1 h2 h3 ih =>
    obtain ⟨j', rfl, hj, hp⟩ := ih
    obtain ⟨k', rfl, hk, hp'⟩ := stp_sm h h' hs hl (by omega) h3
    exact ⟨k', rfl, hk, .step hp (by omega) (by omega) hp'⟩
theorem seg_sm {C C' l l' : List T52} {a a' m : Nat} (h : At C a l) (h' : At C' a' l') (hs : SmL m a a' l l') (hl : l.length = m) {s : Str} {q q' : Nat} : Seg C s a m q q' ↔ Seg C' s a' m q q' := by
  have key : ∀ {C C' l l' : List T52} {a a' : Nat}, At C a l → At C' a' l' → SmL m a a' l l' → l.length = m → Seg C s a m q q' → Seg C' s a' m q q' := by
    intro C C' l l' a a' h h' hs hl hg
    obtain ⟨j', e, hj, hp⟩ := inp_sm h h' hs hl (Nat.zero_le m) hg
    obtain rfl : m = j' := by omega
    exact hp
  exact ⟨key h h' hs hl, key h' h hs.symm (by rw [← hs.1]; exact hl)⟩
/-- Steps from within stay within, or go to the end. -/
theorem stay {C l : List T52} {a m : Nat} (h : At C a l) (hs : SmL m a a l l) (hl : l.length = m) {s : Str} {q i q' j : Nat} (h1 : a ≤ i) (h2 : i < a + m) (hst : stp C s q i q' j) : a ≤ j ∧ j ≤ a + m := by
  obtain ⟨d, rfl⟩ : ∃ d, i = a + d := ⟨i - a, by omega⟩
  obtain ⟨j', rfl, hj, _⟩ := stp_sm h h hs hl (by omega) hst
  omega
end Go.Proofs.Ytjbafmnocopofaa
end
