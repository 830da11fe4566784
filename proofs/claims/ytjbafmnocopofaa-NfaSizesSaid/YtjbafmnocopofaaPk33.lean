/-
  Texts of this proof, put together: D3, PlA, NfS1, NfS2, NfS3, NfS4, NfS5, NfS6, NfA, NfS7, Fu, Fu2, PureSizes.
-/
import Derived.Test.YtjbafmnocopofaaPk32
import Derived.Test.YtjbafmnocopofaaPk31
import Derived.KernelRfl
section
/-
  Functions of the program's as plain functions.
-/

set_option linter.unusedVariables false
set_option maxRecDepth 4000
set_option maxHeartbeats 4000000
namespace Go.Proofs.Ytjbafmnocopofaa
open Go AW
attribute [local irreducible] W WD SH XS XLoop DFun XCall XYield
/-! ### 55: slices.ContainsFunc[[]paddock/api.Inst,paddock/api.Inst] -/
def C55_1 : ACode := .s (.ops [q 4 (.mv (.c (.bool false)))]) (.s (.ops [q 5 (.mv 0), q 6 (.mv 1), qc 7 60 [5, 6], q 8 (.binI .geq 7 (ki 0)), q 4 (.mv 8)]) .ret)
def R55 : List RA := [(.tmp 4)]
theorem k55 : compF Try.prog (muL []) 55 = some ⟨9, C55_1, R55⟩ := by kernel_rfl
noncomputable abbrev X55 (r : Bool) : Cx := cD Try.prog noG 9 R55 (AV.bool r)
noncomputable def F55 (s : Sl T52) : Option Bool :=
 (F60 s >>= fun r_1 =>
  (some (decide (r_1 ≥ 0))))
theorem d55 (s : Sl T52) (r : Bool) (hF : F55 s = some r) : DFun Try.prog noG 55 [slV 9 v52 s, .fn 56 []] (AV.bool r) := by
 unfold F55 at hF
 refine bD k55 rfl ?_
 have hs : SH [] [] := SH.nil
 generalize ([] : Store) = st at hs ⊢
 obtain ⟨r_1, g_2, hF⟩ := bind_some hF
 refine rn 3 rfl ?_
 refine df (d60 s _ g_2) rfl ?_
 refine rn 2 rfl ?_
 cases hF
 exact rD (rlt rl0) rfl
/-! ### 42: paddock/nfa.backs -/
def C42_1 : ACode := .s (.ops [q 1 (.boxD 3 0), q 2 (.mv (.c (.bool false)))]) (.s (.ops [q 3 (.faddr 2 1), q 4 (.load1 3), qc 5 55 [4, (.c (.fn 56 []))], q 2 (.mv 5)]) .ret)
def R42 : List RA := [(.tmp 2)]
theorem k42 : compF Try.prog (muL [1]) 42 = some ⟨6, C42_1, R42⟩ := by kernel_rfl
noncomputable abbrev X42 (r : Bool) : Cx := cD Try.prog noG 6 R42 (AV.bool r) [1]
noncomputable def F42 (p : T34) : Option Bool :=
 (F55 p.Code >>= fun r_1 =>
  (some r_1))
theorem d42 (p : T34) (r : Bool) (hF : F42 p = some r) : DFun Try.prog noG 42 [v34 p] (AV.bool r) := by
 unfold F42 at hF
 refine bD k42 rfl ?_
 have hs : SH [] [] := SH.nil
 generalize ([] : Store) = st at hs ⊢
 refine rn 0 rfl ?_
 refine W.o (e_boxD (cs := c34 p) rfl rfl (c34_one _)) ?_
 refine rn 1 rfl ?_
 refine W.o (e_faddrD rfl) ?_
 refine W.o (l1D rfl rfl) ?_
 obtain ⟨r_1, g_2, hF⟩ := bind_some hF
 refine df (d55 p.Code _ g_2) rfl ?_
 refine rn 1 rfl ?_
 cases hF
 exact rD (rlt rl0) rfl
/-! ### 11: paddock/nfa.Right -/
def O11_7o1 : List AOp := (q 35 (.binI .gtr 34 (ki 16384))).n 33 :: q 36 (.pick 33 (.c (.bool true)) 35) :: []
def O11_7o0 : List AOp := q 11 (.faddr 0 1) :: q 12 (.load1 11) :: q 13 (.binI .lss 12 (ki 0)) :: q 14 (.mv 13) :: (q 15 (.faddr 0 1)).n 14 :: (q 16 (.load1 15)).n 14 :: (q 17 (.binI .gtr 16 (ki 99))).n 14 :: q 18 (.pick 14 (.c (.bool true)) 17) :: q 19 (.mv 18) :: (q 20 (.faddr 1 1)).n 19 :: (q 21 (.load1 20)).n 19 :: (q 22 (.binI .lss 21 (ki 0))).n 19 :: q 23 (.pick 19 (.c (.bool true)) 22) :: q 24 (.mv 23) :: (q 25 (.faddr 1 1)).n 24 :: (q 26 (.load1 25)).n 24 :: (q 27 (.binI .gtr 26 (ki 16384))).n 24 :: q 28 (.pick 24 (.c (.bool true)) 27) :: q 29 (.mv 28) :: (q 30 (.mv 3)).n 29 :: (q 31 (.binI .lss 30 (ki 1))).n 29 :: q 32 (.pick 29 (.c (.bool true)) 31) :: q 33 (.mv 32) :: (q 34 (.mv 3)).n 33 :: O11_7o1
def C11_47 : ACode := .s (.ops [q 58 (.faddr 5 5), q 59 (.load1 58), q 60 (.faddr 5 6), q0 (.store 1 60 59)]) (.ops [q 61 (.faddr 5 5), q 62 (.load1 61), q 63 (.binI .geq 62 (ki 0)), q 64 (.mv 63), (q 65 (.faddr 5 5)).y 64, (q 66 (.load1 65)).y 64, (q 67 (.mv 3)).y 64, (q 68 (.binI .lss 66 67)).y 64, q 69 (.pick 64 68 (.c (.bool false))), q 7 (.mv 69)])
def C11_53 : ACode := .cond 70 .skip (.s (.ops [q 72 (.binI .eql 49 (ku 5)), q 70 (.mv 72)]) (.cond 70 .skip (.ops [q 73 (.binI .eql 49 (ku 9)), q 70 (.mv 73)])))
def C11_61 : ACode := .s (.ops [q 74 (.faddr 6 5), q 75 (.load1 74), q 76 (.faddr 6 6), q0 (.store 1 76 75)]) (.ops [q 77 (.faddr 6 5), q 78 (.load1 77), q 79 (.binI .geq 78 (ki 1)), q 80 (.mv 79), (q 81 (.faddr 6 5)).y 80, (q 82 (.load1 81)).y 80, (q 83 (.faddr 0 1)).y 80, (q 84 (.load1 83)).y 80, (q 85 (.binI .leq 82 84)).y 80, q 86 (.pick 80 85 (.c (.bool false))), q 7 (.mv 86)])
def O11_69o1 : List AOp := q 7 (.mv 118) :: []
def O11_69o0 : List AOp := q 95 (.faddr 6 5) :: q 96 (.load1 95) :: q 97 (.binI .geq 96 (ki 1)) :: q 98 (.mv 97) :: (q 99 (.faddr 6 5)).y 98 :: (q 100 (.load1 99)).y 98 :: (q 101 (.faddr 0 1)).y 98 :: (q 102 (.load1 101)).y 98 :: (q 103 (.binI .leq 100 102)).y 98 :: q 104 (.pick 98 103 (.c (.bool false))) :: q 105 (.mv 104) :: (q 106 (.faddr 7 5)).y 105 :: (q 107 (.load1 106)).y 105 :: (q 108 (.faddr 6 5)).y 105 :: (q 109 (.load1 108)).y 105 :: (q 110 (.binI .geq 107 109)).y 105 :: q 111 (.pick 105 110 (.c (.bool false))) :: q 112 (.mv 111) :: (q 113 (.faddr 7 5)).y 112 :: (q 114 (.load1 113)).y 112 :: (q 115 (.faddr 0 1)).y 112 :: (q 116 (.load1 115)).y 112 :: (q 117 (.binI .leq 114 116)).y 112 :: q 118 (.pick 112 117 (.c (.bool false))) :: O11_69o1
def C11_77 : ACode := .s (.ops [q 122 (.faddr 8 5), q 123 (.load1 122), q 124 (.faddr 8 6), q0 (.store 1 124 123)]) (.ops [q 125 (.faddr 8 5), q 126 (.load1 125), q 127 (.binI .geq 126 (ki 0)), q 128 (.mv 127), (q 129 (.faddr 8 5)).y 128, (q 130 (.load1 129)).y 128, (q 131 (.faddr 1 1)).y 128, (q 132 (.load1 131)).y 128, (q 133 (.binI .lss 130 132)).y 128, q 134 (.pick 128 133 (.c (.bool false))), q 7 (.mv 134)])
def C11_64 : ACode := .s (.ops [q 88 (.binI .eql 49 (ku 6)), q 87 (.mv 88)]) (.cond 87 (.s (.draw [6] 0 0 [q 89 (.faddr 6 5), q 90 (.load1 89), q 91 (.faddr 7 5), q 92 (.load1 91), q 93 (.faddr 6 6), q0 (.store 1 93 90), q 94 (.faddr 7 6), q0 (.store 1 94 92)] []) (.ops O11_69o0)) (.s (.s (.ops [q 120 (.binI .eql 49 (ku 7)), q 119 (.mv 120)]) (.cond 119 .skip (.ops [q 121 (.binI .eql 49 (ku 8)), q 119 (.mv 121)]))) (.cond 119 C11_77 (.s (.s (.ops [q 136 (.binI .eql 49 (ku 10)), q 135 (.mv 136)]) (.cond 135 .skip (.s (.ops [q 137 (.binI .eql 49 (ku 11)), q 135 (.mv 137)]) (.cond 135 .skip (.ops [q 138 (.binI .eql 49 (ku 12)), q 135 (.mv 138)]))))) (.cond 135 .skip (.s (.ops [q 2 (.mv (.c (.bool false)))]) .ret))))))
def C11_95 : ACode := .s (.ops [q 139 (.mv 7), q 140 (.un .not 139), q 141 (.mv 140), (q 142 (.loadN 9 6)).n 141, (q 143 (.loadN 9 5)).n 141, (q 144 (.eqA true [.i, .i, .i, .i, .i, .i, .i, .i, .i] 142 143)).n 141, q 145 (.pick 141 (.c (.bool true)) 144), q 146 (.mv 145), (q 147 (.faddr 0 5)).n 146, (q 148 (.load1 147)).n 146, (q 149 (.binI .eql 148 (ku 12))).n 146, (q 150 (.mv 4)).n 146, (q 151 (.mv 3)).n 146, (q 152 (.binI .sub 151 (ki 1))).n 146, (q 153 (.binI .eql 150 152)).n 146, (q 154 (.eqB true 149 153)).n 146, q 155 (.pick 146 (.c (.bool true)) 154)]) (.cond 155 (.s (.ops [q 2 (.mv (.c (.bool false)))]) .ret) .skip)
def C11_26 : ACode := .s (.ops [q 42 (.mv 40), q 43 (.iaddrL 9 38 40), q 44 (.loadN 9 43), q 5 (.alloc [(.int .u8 0), (.int .u64 0), (.int .u64 0), (.int .u64 0), (.int .u64 0), (.int .i64 0), (.int .i64 0), (.int .i64 0), (.int .i64 0)]), q 4 (.mv 42), q0 (.store 9 5 44)]) (.s (.ops [q 45 (.faddr 0 5), q 46 (.load1 45), q 47 (.build [(.int .u8 0), (.int .u64 0), (.int .u64 0), (.int .u64 0), (.int .u64 0), (.int .i64 0), (.int .i64 0), (.int .i64 0), (.int .i64 0)] [(0, (1, 46))]), q 6 (.alloc [(.int .u8 0), (.int .u64 0), (.int .u64 0), (.int .u64 0), (.int .u64 0), (.int .i64 0), (.int .i64 0), (.int .i64 0), (.int .i64 0)]), q0 (.store 9 6 47)]) (.s (.ops [q 7 (.mv (.c (.bool true)))]) (.s (.s (.ops [q 48 (.faddr 0 5), q 49 (.load1 48)]) (.block 2 (.s (.ops [q 51 (.binI .eql 49 (ku 1)), q 50 (.mv 51)]) (.cond 50 (.ops [q 52 (.faddr 1 5), q 53 (.loadN 4 52), q 54 (.faddr 1 6), q0 (.store 4 54 53)]) (.s (.s (.ops [q 56 (.binI .eql 49 (ku 2)), q 55 (.mv 56)]) (.cond 55 .skip (.ops [q 57 (.binI .eql 49 (ku 3)), q 55 (.mv 57)]))) (.cond 55 C11_47 (.s (.s (.ops [q 71 (.binI .eql 49 (ku 4)), q 70 (.mv 71)]) C11_53) (.cond 70 C11_61 C11_64)))))))) C11_95)))
def C11_102 : ACode := .ops [q 156 (.binI .add 40 (ki 1)), q 40 (.mv 156)]
def C11_18 : ACode := .s (.ops [q 41 (.binI .lss 40 39)]) (.s (.cond 41 .skip (.exit 0)) (.s (.block 1 C11_26) C11_102))
def C11_103 : ACode := .s (.ops [q 2 (.mv (.c (.bool true)))]) .ret
def C11_1 : ACode := .s (.ops [q 1 (.boxD 3 0), q 2 (.mv (.c (.bool false)))]) (.s (.ops [q 8 (.faddr 2 1), q 9 (.load1 8), q 10 (.len 9), q 3 (.mv 10)]) (.s (.s (.ops O11_7o0) (.cond 36 (.s (.ops [q 2 (.mv (.c (.bool false)))]) .ret) .skip)) (.s (.s (.ops [q 37 (.faddr 2 1), q 38 (.load1 37), q 39 (.len 38), q 40 (.mv (ki 0))]) (.block 0 (.loop C11_18))) C11_103)))
def R11 : List RA := [(.tmp 2)]
theorem k11 : compF Try.prog (muL [1]) 11 = some ⟨157, C11_1, R11⟩ := by kernel_rfl
noncomputable abbrev X11 (r : Bool) : Cx := cD Try.prog noG 157 R11 (AV.bool r) [1]
inductive St11 where
 | p1 (p : T34) (n : Int) (t38_ : Sl T52) (t39_ : Int) (t40_ : Int)
 | p2 (p : T34) (n : Int) (i : Int) (ok : Bool) (t38_ : Sl T52) (t39_ : Int) (t40_ : Int) (x_ : T52) (plain : T52)
 | p3 (p : T34) (n : Int) (i : Int) (t38_ : Sl T52) (t39_ : Int) (t40_ : Int) (x_ : T52) (plain : T52)
 | p4 (p : T34) (n : Int) (i : Int) (t38_ : Sl T52) (t39_ : Int) (t40_ : Int) (x_ : T52) (plain : T52)
 | p5 (p : T34) (n : Int) (i : Int) (t38_ : Sl T52) (t39_ : Int) (t40_ : Int) (x_ : T52) (plain : T52)
noncomputable def G11 : St11 → Option Bool
 | .p1 p n t38_ t39_ t40_ =>
  (if (decide (t40_ < t39_)) = true then
   (ix (ls t38_) t40_ >>= fun v_8 =>
    (if (v_8.Kind == 1) = true then
     (G11 (.p2 p n t40_ true t38_ t39_ t40_ v_8 ({ Kind := v_8.Kind, Set := v_8.Set, To := 0, Group := 0, Last := 0, Slot := 0 } : T52)))
    else
     (if (v_8.Kind == 2) = true then
      (G11 (.p3 p n t40_ t38_ t39_ t40_ v_8 ({ Kind := v_8.Kind, Set := (Arr.rep 4 0), To := 0, Group := 0, Last := 0, Slot := 0 } : T52)))
     else
      (if (v_8.Kind == 3) = true then
       (G11 (.p3 p n t40_ t38_ t39_ t40_ v_8 ({ Kind := v_8.Kind, Set := (Arr.rep 4 0), To := 0, Group := 0, Last := 0, Slot := 0 } : T52)))
      else
       (if (v_8.Kind == 4) = true then
        (G11 (.p4 p n t40_ t38_ t39_ t40_ v_8 ({ Kind := v_8.Kind, Set := (Arr.rep 4 0), To := 0, Group := 0, Last := 0, Slot := 0 } : T52)))
       else
        (if (v_8.Kind == 5) = true then
         (G11 (.p4 p n t40_ t38_ t39_ t40_ v_8 ({ Kind := v_8.Kind, Set := (Arr.rep 4 0), To := 0, Group := 0, Last := 0, Slot := 0 } : T52)))
        else
         (if (v_8.Kind == 9) = true then
          (G11 (.p4 p n t40_ t38_ t39_ t40_ v_8 ({ Kind := v_8.Kind, Set := (Arr.rep 4 0), To := 0, Group := 0, Last := 0, Slot := 0 } : T52)))
         else
          (if (v_8.Kind == 6) = true then
           (if (decide (v_8.Group ≥ 1)) = true then
            (if (decide (v_8.Group ≤ p.Groups)) = true then
             (if (decide (v_8.Last ≥ v_8.Group)) = true then
              (G11 (.p2 p n t40_ (decide (v_8.Last ≤ p.Groups)) t38_ t39_ t40_ v_8 ({ Kind := v_8.Kind, Set := (Arr.rep 4 0), To := 0, Group := v_8.Group, Last := v_8.Last, Slot := 0 } : T52)))
             else
              (G11 (.p2 p n t40_ false t38_ t39_ t40_ v_8 ({ Kind := v_8.Kind, Set := (Arr.rep 4 0), To := 0, Group := v_8.Group, Last := v_8.Last, Slot := 0 } : T52))))
            else
             (G11 (.p2 p n t40_ false t38_ t39_ t40_ v_8 ({ Kind := v_8.Kind, Set := (Arr.rep 4 0), To := 0, Group := v_8.Group, Last := v_8.Last, Slot := 0 } : T52))))
           else
            (G11 (.p2 p n t40_ false t38_ t39_ t40_ v_8 ({ Kind := v_8.Kind, Set := (Arr.rep 4 0), To := 0, Group := v_8.Group, Last := v_8.Last, Slot := 0 } : T52))))
          else
           (if (v_8.Kind == 7) = true then
            (G11 (.p5 p n t40_ t38_ t39_ t40_ v_8 ({ Kind := v_8.Kind, Set := (Arr.rep 4 0), To := 0, Group := 0, Last := 0, Slot := 0 } : T52)))
           else
            (if (v_8.Kind == 8) = true then
             (G11 (.p5 p n t40_ t38_ t39_ t40_ v_8 ({ Kind := v_8.Kind, Set := (Arr.rep 4 0), To := 0, Group := 0, Last := 0, Slot := 0 } : T52)))
            else
             (if (v_8.Kind == 10) = true then
              (G11 (.p2 p n t40_ true t38_ t39_ t40_ v_8 ({ Kind := v_8.Kind, Set := (Arr.rep 4 0), To := 0, Group := 0, Last := 0, Slot := 0 } : T52)))
             else
              (if (v_8.Kind == 11) = true then
               (G11 (.p2 p n t40_ true t38_ t39_ t40_ v_8 ({ Kind := v_8.Kind, Set := (Arr.rep 4 0), To := 0, Group := 0, Last := 0, Slot := 0 } : T52)))
              else
               (if (v_8.Kind == 12) = true then
                (G11 (.p2 p n t40_ true t38_ t39_ t40_ v_8 ({ Kind := v_8.Kind, Set := (Arr.rep 4 0), To := 0, Group := 0, Last := 0, Slot := 0 } : T52)))
               else
                (some false))))))))))))))
  else
   (some true))
 | .p2 p n i ok t38_ t39_ t40_ x_ plain =>
  (if (!ok) = true then
   (some false)
  else
   (if (!decide (plain = x_)) = true then
    (some false)
   else
    (if (!((x_.Kind == 12) == (i == (IntKind.wrap .i64 (n - 1))))) = true then
     (some false)
    else
     (G11 (.p1 p n t38_ t39_ (IntKind.wrap .i64 (t40_ + 1)))))))
 | .p3 p n i t38_ t39_ t40_ x_ plain =>
  (if (decide (x_.To ≥ 0)) = true then
   (G11 (.p2 p n i (decide (x_.To < n)) t38_ t39_ t40_ x_ ({ plain with To := x_.To } : T52)))
  else
   (G11 (.p2 p n i false t38_ t39_ t40_ x_ ({ plain with To := x_.To } : T52))))
 | .p4 p n i t38_ t39_ t40_ x_ plain =>
  (if (decide (x_.Group ≥ 1)) = true then
   (G11 (.p2 p n i (decide (x_.Group ≤ p.Groups)) t38_ t39_ t40_ x_ ({ plain with Group := x_.Group } : T52)))
  else
   (G11 (.p2 p n i false t38_ t39_ t40_ x_ ({ plain with Group := x_.Group } : T52))))
 | .p5 p n i t38_ t39_ t40_ x_ plain =>
  (if (decide (x_.Slot ≥ 0)) = true then
   (G11 (.p2 p n i (decide (x_.Slot < p.Slots)) t38_ t39_ t40_ x_ ({ plain with Slot := x_.Slot } : T52)))
  else
   (G11 (.p2 p n i false t38_ t39_ t40_ x_ ({ plain with Slot := x_.Slot } : T52))))
 partial_fixpoint
def M11 (x : St11) (r : Bool) : Prop := match x with
 | .p1 p n t38_ t39_ t40_ => ∀ (tm : Fr) (st : Store), Frm tm [(1, .dptr (c34 p)), (3, AV.int .i64 n), (38, slV 9 v52 t38_), (39, AV.int .i64 t39_), (40, AV.int .i64 t40_)] → SH st [] → W (X11 r) [.lp C11_18, .blk 0, .code C11_103] tm st
 | .p2 p n i ok t38_ t39_ t40_ x_ plain => ∀ (tm : Fr) (st : Store) (io0 : Nat) (io1 : Nat), Frm tm [(1, .dptr (c34 p)), (3, AV.int .i64 n), (4, AV.int .i64 i), (5, .ptr io0 0), (6, .ptr io1 0), (7, AV.bool ok), (38, slV 9 v52 t38_), (39, AV.int .i64 t39_), (40, AV.int .i64 t40_)] → SH st [pt io0 (.cells (c52 x_)), pt io1 (.cells (c52 plain))] → W (X11 r) [.code C11_95, .blk 1, .code C11_102, .lp C11_18, .blk 0, .code C11_103] tm st
 | .p3 p n i t38_ t39_ t40_ x_ plain => ∀ (tm : Fr) (st : Store) (io0 : Nat) (io1 : Nat), Frm tm [(1, .dptr (c34 p)), (3, AV.int .i64 n), (4, AV.int .i64 i), (5, .ptr io0 0), (6, .ptr io1 0), (38, slV 9 v52 t38_), (39, AV.int .i64 t39_), (40, AV.int .i64 t40_)] → SH st [pt io0 (.cells (c52 x_)), pt io1 (.cells (c52 plain))] → W (X11 r) [.code C11_47, .blk 2, .code C11_95, .blk 1, .code C11_102, .lp C11_18, .blk 0, .code C11_103] tm st
 | .p4 p n i t38_ t39_ t40_ x_ plain => ∀ (tm : Fr) (st : Store) (io0 : Nat) (io1 : Nat), Frm tm [(1, .dptr (c34 p)), (3, AV.int .i64 n), (4, AV.int .i64 i), (5, .ptr io0 0), (6, .ptr io1 0), (38, slV 9 v52 t38_), (39, AV.int .i64 t39_), (40, AV.int .i64 t40_)] → SH st [pt io0 (.cells (c52 x_)), pt io1 (.cells (c52 plain))] → W (X11 r) [.code C11_61, .blk 2, .code C11_95, .blk 1, .code C11_102, .lp C11_18, .blk 0, .code C11_103] tm st
 | .p5 p n i t38_ t39_ t40_ x_ plain => ∀ (tm : Fr) (st : Store) (io0 : Nat) (io1 : Nat), Frm tm [(1, .dptr (c34 p)), (3, AV.int .i64 n), (4, AV.int .i64 i), (5, .ptr io0 0), (6, .ptr io1 0), (38, slV 9 v52 t38_), (39, AV.int .i64 t39_), (40, AV.int .i64 t40_)] → SH st [pt io0 (.cells (c52 x_)), pt io1 (.cells (c52 plain))] → W (X11 r) [.code C11_77, .blk 2, .code C11_95, .blk 1, .code C11_102, .lp C11_18, .blk 0, .code C11_103] tm st
theorem w11 : ∀ (x : St11) (r : Bool), G11 x = some r → M11 x r := by
 refine G11.partial_correctness (M11) ?_
 intro g ih x r hF
 cases x with
 | p1 p n t38_ t39_ t40_ =>
  dsimp only at hF
  intro tm st hf hs
  refine en hf ?_
  refine lp ?_
  refine rn 1 rfl ?_
  refine ci hF rfl (fun c_7 hF => ?_) (fun c_7 hF => ?_)
  · obtain ⟨v_8, g_9, hF⟩ := bind_some hF
    refine rn 1 rfl ?_
    refine W.o (e_iaddrL (rd_V rfl) rfl g_9) ?_
    refine W.o (lND (s := c52 v_8) rfl rfl rfl) ?_
    refine al hs (cs := c52 ({ Kind := 0, Set := (Arr.rep 4 0), To := 0, Group := 0, Last := 0, Slot := 0 } : T52)) rfl fun st b_10 hs => ?_
    refine rn 1 rfl ?_
    refine sr hs 0 rfl rfl rfl (cs' := c52 v_8) rfl rfl fun st hs => ?_
    refine rn 0 rfl ?_
    refine W.o (e_faddr rfl (hs.g 0 rfl)) ?_
    refine W.o (l1 rfl (hs.g 0 rfl) rfl) ?_
    refine W.o (bR (cs := c52 ({ Kind := v_8.Kind, Set := (Arr.rep 4 0), To := 0, Group := 0, Last := 0, Slot := 0 } : T52)) rfl rfl) ?_
    refine al hs (cs := c52 ({ Kind := 0, Set := (Arr.rep 4 0), To := 0, Group := 0, Last := 0, Slot := 0 } : T52)) rfl fun st b_11 hs => ?_
    refine sr hs 0 rfl rfl rfl (cs' := c52 ({ Kind := v_8.Kind, Set := (Arr.rep 4 0), To := 0, Group := 0, Last := 0, Slot := 0 } : T52)) rfl rfl fun st hs => ?_
    refine rn 1 rfl ?_
    refine W.o (e_faddr rfl (hs.g 1 rfl)) ?_
    refine W.o (l1 rfl (hs.g 1 rfl) rfl) ?_
    refine rn 2 rfl ?_
    refine ci hF rfl (fun c_12 hF => ?_) (fun c_12 hF => ?_)
    · refine rn 0 rfl ?_
      refine W.o (e_faddr rfl (hs.g 1 rfl)) ?_
      refine W.o (lN (s := c24 v_8.Set) rfl (hs.g 1 rfl) rfl rfl) ?_
      refine W.o (e_faddr rfl (hs.g 0 rfl)) ?_
      refine sr hs 0 rfl rfl rfl (cs' := c52 ({ Kind := v_8.Kind, Set := v_8.Set, To := 0, Group := 0, Last := 0, Slot := 0 } : T52)) rfl rfl fun st hs => ?_
      refine rj 0 2 rfl ?_
      exact ih (.p2 p n t40_ true t38_ t39_ t40_ v_8 ({ Kind := v_8.Kind, Set := v_8.Set, To := 0, Group := 0, Last := 0, Slot := 0 } : T52)) _ hF _ _ b_10 b_11 ⟨rfl, rfl, rfl, rfl, rfl, rfl, rfl, rfl, rfl, trivial⟩ (hs.p 2 [1, 0] rfl)
    · refine rn 2 rfl ?_
      refine ci hF rfl (fun c_13 hF => ?_) (fun c_13 hF => ?_)
      · refine rn 0 rfl ?_
        refine ct rfl c_13 ?_
        exact ih (.p3 p n t40_ t38_ t39_ t40_ v_8 ({ Kind := v_8.Kind, Set := (Arr.rep 4 0), To := 0, Group := 0, Last := 0, Slot := 0 } : T52)) _ hF _ _ b_10 b_11 ⟨rfl, rfl, rfl, rfl, rfl, rfl, rfl, rfl, trivial⟩ (hs.p 2 [1, 0] rfl)
      · refine rn 2 rfl ?_
        refine ci hF rfl (fun c_14 hF => ?_) (fun c_14 hF => ?_)
        · exact ih (.p3 p n t40_ t38_ t39_ t40_ v_8 ({ Kind := v_8.Kind, Set := (Arr.rep 4 0), To := 0, Group := 0, Last := 0, Slot := 0 } : T52)) _ hF _ _ b_10 b_11 ⟨rfl, rfl, rfl, rfl, rfl, rfl, rfl, rfl, trivial⟩ (hs.p 2 [1, 0] rfl)
        · refine rn 2 rfl ?_
          refine ci hF rfl (fun c_15 hF => ?_) (fun c_15 hF => ?_)
          · refine rn 0 rfl ?_
            refine ct rfl c_15 ?_
            exact ih (.p4 p n t40_ t38_ t39_ t40_ v_8 ({ Kind := v_8.Kind, Set := (Arr.rep 4 0), To := 0, Group := 0, Last := 0, Slot := 0 } : T52)) _ hF _ _ b_10 b_11 ⟨rfl, rfl, rfl, rfl, rfl, rfl, rfl, rfl, trivial⟩ (hs.p 2 [1, 0] rfl)
          · refine rn 2 rfl ?_
            refine ci hF rfl (fun c_16 hF => ?_) (fun c_16 hF => ?_)
            · refine rn 0 rfl ?_
              refine ct rfl c_16 ?_
              exact ih (.p4 p n t40_ t38_ t39_ t40_ v_8 ({ Kind := v_8.Kind, Set := (Arr.rep 4 0), To := 0, Group := 0, Last := 0, Slot := 0 } : T52)) _ hF _ _ b_10 b_11 ⟨rfl, rfl, rfl, rfl, rfl, rfl, rfl, rfl, trivial⟩ (hs.p 2 [1, 0] rfl)
            · refine rn 2 rfl ?_
              refine ci hF rfl (fun c_17 hF => ?_) (fun c_17 hF => ?_)
              · exact ih (.p4 p n t40_ t38_ t39_ t40_ v_8 ({ Kind := v_8.Kind, Set := (Arr.rep 4 0), To := 0, Group := 0, Last := 0, Slot := 0 } : T52)) _ hF _ _ b_10 b_11 ⟨rfl, rfl, rfl, rfl, rfl, rfl, rfl, rfl, trivial⟩ (hs.p 2 [1, 0] rfl)
              · refine rn 2 rfl ?_
                refine ci hF rfl (fun c_18 hF => ?_) (fun c_18 hF => ?_)
                · refine rn 0 rfl ?_
                  refine dr1 hs 0 rfl rfl rfl fun s_19 st h0 hs => ?_
                  refine de rfl (e_faddr rfl (h0.g 1 rfl)) ?_
                  refine de rfl (l1 rfl (h0.g 1 rfl) rfl) ?_
                  refine de rfl (e_faddr rfl (h0.g 1 rfl)) ?_
                  refine de rfl (l1 rfl (h0.g 1 rfl) rfl) ?_
                  refine de rfl (e_faddrH rfl (h0.g 0 rfl)) ?_
                  refine dsr' h0 0 hs 0 rfl rfl rfl rfl (cs' := c52 ({ Kind := v_8.Kind, Set := (Arr.rep 4 0), To := 0, Group := v_8.Group, Last := 0, Slot := 0 } : T52)) rfl rfl fun st hs => ?_
                  refine de rfl (e_faddrH rfl (h0.g 0 rfl)) ?_
                  refine dsr' h0 0 hs 0 rfl rfl rfl rfl (cs' := c52 ({ Kind := v_8.Kind, Set := (Arr.rep 4 0), To := 0, Group := v_8.Group, Last := v_8.Last, Slot := 0 } : T52)) rfl rfl fun st hs => ?_
                  refine dz ?_
                  refine rn 0 rfl ?_
                  refine W.o (e_faddr rfl (hs.g 1 rfl)) ?_
                  refine W.o (l1 rfl (hs.g 1 rfl) rfl) ?_
                  refine rn 2 rfl ?_
                  refine bi hF (fun c_20 hF => ?_) (fun c_20 hF => ?_)
                  · refine wfx 98 rfl c_20 ?_
                    refine W.on rfl rfl ?_
                    refine W.o (e_faddr rfl (hs.g 1 rfl)) ?_
                    refine W.on rfl rfl ?_
                    refine W.o (l1 rfl (hs.g 1 rfl) rfl) ?_
                    refine W.on rfl rfl ?_
                    refine W.o (e_faddrD rfl) ?_
                    refine W.on rfl rfl ?_
                    refine W.o (l1D rfl rfl) ?_
                    refine rn 3 rfl ?_
                    refine bi hF (fun c_21 hF => ?_) (fun c_21 hF => ?_)
                    · refine wfx 105 rfl c_21 ?_
                      refine W.on rfl rfl ?_
                      refine W.o (e_faddr rfl (hs.g 1 rfl)) ?_
                      refine W.on rfl rfl ?_
                      refine W.o (l1 rfl (hs.g 1 rfl) rfl) ?_
                      refine W.on rfl rfl ?_
                      refine W.o (e_faddr rfl (hs.g 1 rfl)) ?_
                      refine W.on rfl rfl ?_
                      refine W.o (l1 rfl (hs.g 1 rfl) rfl) ?_
                      refine rn 3 rfl ?_
                      refine bi hF (fun c_22 hF => ?_) (fun c_22 hF => ?_)
                      · refine wfx 112 rfl c_22 ?_
                        refine W.on rfl rfl ?_
                        refine W.o (e_faddr rfl (hs.g 1 rfl)) ?_
                        refine W.on rfl rfl ?_
                        refine W.o (l1 rfl (hs.g 1 rfl) rfl) ?_
                        refine W.on rfl rfl ?_
                        refine W.o (e_faddrD rfl) ?_
                        refine W.on rfl rfl ?_
                        refine W.o (l1D rfl rfl) ?_
                        refine rj 3 2 rfl ?_
                        exact ih (.p2 p n t40_ (decide (v_8.Last ≤ p.Groups)) t38_ t39_ t40_ v_8 ({ Kind := v_8.Kind, Set := (Arr.rep 4 0), To := 0, Group := v_8.Group, Last := v_8.Last, Slot := 0 } : T52)) _ hF _ _ b_10 b_11 ⟨rfl, rfl, rfl, rfl, rfl, rfl, rfl, rfl, rfl, trivial⟩ (hs.p 2 [1, 0] rfl)
                      · refine wfx 112 rfl c_22 ?_
                        refine rj 7 2 rfl ?_
                        exact ih (.p2 p n t40_ false t38_ t39_ t40_ v_8 ({ Kind := v_8.Kind, Set := (Arr.rep 4 0), To := 0, Group := v_8.Group, Last := v_8.Last, Slot := 0 } : T52)) _ hF _ _ b_10 b_11 ⟨rfl, rfl, rfl, rfl, rfl, rfl, rfl, rfl, rfl, trivial⟩ (hs.p 2 [1, 0] rfl)
                    · refine wfx 105 rfl c_21 ?_
                      refine rj 14 2 rfl ?_
                      exact ih (.p2 p n t40_ false t38_ t39_ t40_ v_8 ({ Kind := v_8.Kind, Set := (Arr.rep 4 0), To := 0, Group := v_8.Group, Last := v_8.Last, Slot := 0 } : T52)) _ hF _ _ b_10 b_11 ⟨rfl, rfl, rfl, rfl, rfl, rfl, rfl, rfl, rfl, trivial⟩ (hs.p 2 [1, 0] rfl)
                  · refine wfx 98 rfl c_20 ?_
                    refine rj 21 2 rfl ?_
                    exact ih (.p2 p n t40_ false t38_ t39_ t40_ v_8 ({ Kind := v_8.Kind, Set := (Arr.rep 4 0), To := 0, Group := v_8.Group, Last := v_8.Last, Slot := 0 } : T52)) _ hF _ _ b_10 b_11 ⟨rfl, rfl, rfl, rfl, rfl, rfl, rfl, rfl, rfl, trivial⟩ (hs.p 2 [1, 0] rfl)
                · refine rn 2 rfl ?_
                  refine ci hF rfl (fun c_23 hF => ?_) (fun c_23 hF => ?_)
                  · refine rn 0 rfl ?_
                    refine ct rfl c_23 ?_
                    exact ih (.p5 p n t40_ t38_ t39_ t40_ v_8 ({ Kind := v_8.Kind, Set := (Arr.rep 4 0), To := 0, Group := 0, Last := 0, Slot := 0 } : T52)) _ hF _ _ b_10 b_11 ⟨rfl, rfl, rfl, rfl, rfl, rfl, rfl, rfl, trivial⟩ (hs.p 2 [1, 0] rfl)
                  · refine rn 2 rfl ?_
                    refine ci hF rfl (fun c_24 hF => ?_) (fun c_24 hF => ?_)
                    · exact ih (.p5 p n t40_ t38_ t39_ t40_ v_8 ({ Kind := v_8.Kind, Set := (Arr.rep 4 0), To := 0, Group := 0, Last := 0, Slot := 0 } : T52)) _ hF _ _ b_10 b_11 ⟨rfl, rfl, rfl, rfl, rfl, rfl, rfl, rfl, trivial⟩ (hs.p 2 [1, 0] rfl)
                    · refine rn 2 rfl ?_
                      refine ci hF rfl (fun c_25 hF => ?_) (fun c_25 hF => ?_)
                      · refine rn 0 rfl ?_
                        refine ct rfl c_25 ?_
                        refine rj 0 2 rfl ?_
                        exact ih (.p2 p n t40_ true t38_ t39_ t40_ v_8 ({ Kind := v_8.Kind, Set := (Arr.rep 4 0), To := 0, Group := 0, Last := 0, Slot := 0 } : T52)) _ hF _ _ b_10 b_11 ⟨rfl, rfl, rfl, rfl, rfl, rfl, rfl, rfl, rfl, trivial⟩ (hs.p 2 [1, 0] rfl)
                      · refine rn 2 rfl ?_
                        refine ci hF rfl (fun c_26 hF => ?_) (fun c_26 hF => ?_)
                        · refine rn 0 rfl ?_
                          refine ct rfl c_26 ?_
                          refine rj 0 2 rfl ?_
                          exact ih (.p2 p n t40_ true t38_ t39_ t40_ v_8 ({ Kind := v_8.Kind, Set := (Arr.rep 4 0), To := 0, Group := 0, Last := 0, Slot := 0 } : T52)) _ hF _ _ b_10 b_11 ⟨rfl, rfl, rfl, rfl, rfl, rfl, rfl, rfl, rfl, trivial⟩ (hs.p 2 [1, 0] rfl)
                        · refine rn 2 rfl ?_
                          refine ci hF rfl (fun c_27 hF => ?_) (fun c_27 hF => ?_)
                          · refine rj 0 2 rfl ?_
                            exact ih (.p2 p n t40_ true t38_ t39_ t40_ v_8 ({ Kind := v_8.Kind, Set := (Arr.rep 4 0), To := 0, Group := 0, Last := 0, Slot := 0 } : T52)) _ hF _ _ b_10 b_11 ⟨rfl, rfl, rfl, rfl, rfl, rfl, rfl, rfl, rfl, trivial⟩ (hs.p 2 [1, 0] rfl)
                          · refine rn 1 rfl ?_
                            cases hF
                            exact rD (rlt rl0) rfl
  · refine rn 1 rfl ?_
    cases hF
    exact rD (rlt rl0) rfl
 | p2 p n i ok t38_ t39_ t40_ x_ plain =>
  dsimp only at hF
  intro tm st io0 io1 hf hs
  refine en hf ?_
  refine rn 3 rfl ?_
  refine bi hF (fun c_28 hF => ?_) (fun c_28 hF => ?_)
  · refine wfx 141 rfl c_28 ?_
    refine rn 14 rfl ?_
    refine ct rfl rfl ?_
    refine rn 1 rfl ?_
    cases hF
    exact rD (rlt rl0) rfl
  · refine wfx 141 rfl c_28 ?_
    refine W.on rfl rfl ?_
    refine W.o (lN (s := c52 plain) rfl (hs.g 1 rfl) rfl rfl) ?_
    refine W.on rfl rfl ?_
    refine W.o (lN (s := c52 x_) rfl (hs.g 0 rfl) rfl rfl) ?_
    refine W.on rfl rfl ?_
    refine W.o (e_neA rfl rfl (c52_eq plain x_)) ?_
    refine rn 2 rfl ?_
    refine bi hF (fun c_29 hF => ?_) (fun c_29 hF => ?_)
    · refine wfx 146 rfl c_29 ?_
      refine rn 9 rfl ?_
      refine ct rfl rfl ?_
      refine rn 1 rfl ?_
      cases hF
      exact rD (rlt rl0) rfl
    · refine wfx 146 rfl c_29 ?_
      refine W.on rfl rfl ?_
      refine W.o (e_faddr rfl (hs.g 0 rfl)) ?_
      refine W.on rfl rfl ?_
      refine W.o (l1 rfl (hs.g 0 rfl) rfl) ?_
      refine rn 7 rfl ?_
      refine ci hF rfl (fun c_30 hF => ?_) (fun c_30 hF => ?_)
      · refine rn 1 rfl ?_
        cases hF
        exact rD (rlt rl0) rfl
      · refine rn 2 rfl ?_
        exact ih (.p1 p n t38_ t39_ (IntKind.wrap .i64 (t40_ + 1))) _ hF _ _ ⟨rfl, rfl, rfl, rfl, rfl, trivial⟩ (hs.p 2 [] rfl)
 | p3 p n i t38_ t39_ t40_ x_ plain =>
  dsimp only at hF
  intro tm st io0 io1 hf hs
  refine en hf ?_
  refine rn 0 rfl ?_
  refine W.o (e_faddr rfl (hs.g 0 rfl)) ?_
  refine W.o (l1 rfl (hs.g 0 rfl) rfl) ?_
  refine W.o (e_faddr rfl (hs.g 1 rfl)) ?_
  refine sr hs 1 rfl rfl rfl (cs' := c52 ({ plain with To := x_.To } : T52)) rfl rfl fun st hs => ?_
  refine rn 0 rfl ?_
  refine W.o (e_faddr rfl (hs.g 0 rfl)) ?_
  refine W.o (l1 rfl (hs.g 0 rfl) rfl) ?_
  refine rn 2 rfl ?_
  refine bi hF (fun c_31 hF => ?_) (fun c_31 hF => ?_)
  · refine wfx 64 rfl c_31 ?_
    refine W.on rfl rfl ?_
    refine W.o (e_faddr rfl (hs.g 0 rfl)) ?_
    refine W.on rfl rfl ?_
    refine W.o (l1 rfl (hs.g 0 rfl) rfl) ?_
    refine rj 4 2 rfl ?_
    exact ih (.p2 p n i (decide (x_.To < n)) t38_ t39_ t40_ x_ ({ plain with To := x_.To } : T52)) _ hF _ _ io0 io1 ⟨rfl, rfl, rfl, rfl, rfl, rfl, rfl, rfl, rfl, trivial⟩ hs
  · refine wfx 64 rfl c_31 ?_
    refine rj 6 2 rfl ?_
    exact ih (.p2 p n i false t38_ t39_ t40_ x_ ({ plain with To := x_.To } : T52)) _ hF _ _ io0 io1 ⟨rfl, rfl, rfl, rfl, rfl, rfl, rfl, rfl, rfl, trivial⟩ hs
 | p4 p n i t38_ t39_ t40_ x_ plain =>
  dsimp only at hF
  intro tm st io0 io1 hf hs
  refine en hf ?_
  refine rn 0 rfl ?_
  refine W.o (e_faddr rfl (hs.g 0 rfl)) ?_
  refine W.o (l1 rfl (hs.g 0 rfl) rfl) ?_
  refine W.o (e_faddr rfl (hs.g 1 rfl)) ?_
  refine sr hs 1 rfl rfl rfl (cs' := c52 ({ plain with Group := x_.Group } : T52)) rfl rfl fun st hs => ?_
  refine rn 0 rfl ?_
  refine W.o (e_faddr rfl (hs.g 0 rfl)) ?_
  refine W.o (l1 rfl (hs.g 0 rfl) rfl) ?_
  refine rn 2 rfl ?_
  refine bi hF (fun c_32 hF => ?_) (fun c_32 hF => ?_)
  · refine wfx 80 rfl c_32 ?_
    refine W.on rfl rfl ?_
    refine W.o (e_faddr rfl (hs.g 0 rfl)) ?_
    refine W.on rfl rfl ?_
    refine W.o (l1 rfl (hs.g 0 rfl) rfl) ?_
    refine W.on rfl rfl ?_
    refine W.o (e_faddrD rfl) ?_
    refine W.on rfl rfl ?_
    refine W.o (l1D rfl rfl) ?_
    refine rj 3 2 rfl ?_
    exact ih (.p2 p n i (decide (x_.Group ≤ p.Groups)) t38_ t39_ t40_ x_ ({ plain with Group := x_.Group } : T52)) _ hF _ _ io0 io1 ⟨rfl, rfl, rfl, rfl, rfl, rfl, rfl, rfl, rfl, trivial⟩ hs
  · refine wfx 80 rfl c_32 ?_
    refine rj 7 2 rfl ?_
    exact ih (.p2 p n i false t38_ t39_ t40_ x_ ({ plain with Group := x_.Group } : T52)) _ hF _ _ io0 io1 ⟨rfl, rfl, rfl, rfl, rfl, rfl, rfl, rfl, rfl, trivial⟩ hs
 | p5 p n i t38_ t39_ t40_ x_ plain =>
  dsimp only at hF
  intro tm st io0 io1 hf hs
  refine en hf ?_
  refine rn 0 rfl ?_
  refine W.o (e_faddr rfl (hs.g 0 rfl)) ?_
  refine W.o (l1 rfl (hs.g 0 rfl) rfl) ?_
  refine W.o (e_faddr rfl (hs.g 1 rfl)) ?_
  refine sr hs 1 rfl rfl rfl (cs' := c52 ({ plain with Slot := x_.Slot } : T52)) rfl rfl fun st hs => ?_
  refine rn 0 rfl ?_
  refine W.o (e_faddr rfl (hs.g 0 rfl)) ?_
  refine W.o (l1 rfl (hs.g 0 rfl) rfl) ?_
  refine rn 2 rfl ?_
  refine bi hF (fun c_33 hF => ?_) (fun c_33 hF => ?_)
  · refine wfx 128 rfl c_33 ?_
    refine W.on rfl rfl ?_
    refine W.o (e_faddr rfl (hs.g 0 rfl)) ?_
    refine W.on rfl rfl ?_
    refine W.o (l1 rfl (hs.g 0 rfl) rfl) ?_
    refine W.on rfl rfl ?_
    refine W.o (e_faddrD rfl) ?_
    refine W.on rfl rfl ?_
    refine W.o (l1D rfl rfl) ?_
    refine rj 3 2 rfl ?_
    exact ih (.p2 p n i (decide (x_.Slot < p.Slots)) t38_ t39_ t40_ x_ ({ plain with Slot := x_.Slot } : T52)) _ hF _ _ io0 io1 ⟨rfl, rfl, rfl, rfl, rfl, rfl, rfl, rfl, rfl, trivial⟩ hs
  · refine wfx 128 rfl c_33 ?_
    refine rj 7 2 rfl ?_
    exact ih (.p2 p n i false t38_ t39_ t40_ x_ ({ plain with Slot := x_.Slot } : T52)) _ hF _ _ io0 io1 ⟨rfl, rfl, rfl, rfl, rfl, rfl, rfl, rfl, rfl, trivial⟩ hs
noncomputable def F11 (p : T34) : Option Bool :=
 (if (decide (p.Groups < 0)) = true then
  (some false)
 else
  (if (decide (p.Groups > 99)) = true then
   (some false)
  else
   (if (decide (p.Slots < 0)) = true then
    (some false)
   else
    (if (decide (p.Slots > 16384)) = true then
     (some false)
    else
     (if (decide (((ls p.Code).length : Int) < 1)) = true then
      (some false)
     else
      (if (decide (((ls p.Code).length : Int) > 16384)) = true then
       (some false)
      else
       (G11 (.p1 p ((ls p.Code).length : Int) p.Code ((ls p.Code).length : Int) 0))))))))
theorem d11 (p : T34) (r : Bool) (hF : F11 p = some r) : DFun Try.prog noG 11 [v34 p] (AV.bool r) := by
 unfold F11 at hF
 refine bD k11 rfl ?_
 have hs : SH [] [] := SH.nil
 generalize ([] : Store) = st at hs ⊢
 refine rn 0 rfl ?_
 refine W.o (e_boxD (cs := c34 p) rfl rfl (c34_one _)) ?_
 refine rn 1 rfl ?_
 refine W.o (e_faddrD rfl) ?_
 refine W.o (l1D rfl rfl) ?_
 refine W.o (e_len (rd_V rfl)) ?_
 refine rn 1 rfl ?_
 refine W.o (e_faddrD rfl) ?_
 refine W.o (l1D rfl rfl) ?_
 refine rn 2 rfl ?_
 refine bi hF (fun c_1 hF => ?_) (fun c_1 hF => ?_)
 · refine wfx 14 rfl c_1 ?_
   refine rn 22 rfl ?_
   refine ct rfl rfl ?_
   refine rn 1 rfl ?_
   cases hF
   exact rD (rlt rl0) rfl
 · refine wfx 14 rfl c_1 ?_
   refine W.on rfl rfl ?_
   refine W.o (e_faddrD rfl) ?_
   refine W.on rfl rfl ?_
   refine W.o (l1D rfl rfl) ?_
   refine rn 3 rfl ?_
   refine bi hF (fun c_2 hF => ?_) (fun c_2 hF => ?_)
   · refine wfx 19 rfl c_2 ?_
     refine rn 17 rfl ?_
     refine ct rfl rfl ?_
     refine rn 1 rfl ?_
     cases hF
     exact rD (rlt rl0) rfl
   · refine wfx 19 rfl c_2 ?_
     refine W.on rfl rfl ?_
     refine W.o (e_faddrD rfl) ?_
     refine W.on rfl rfl ?_
     refine W.o (l1D rfl rfl) ?_
     refine rn 3 rfl ?_
     refine bi hF (fun c_3 hF => ?_) (fun c_3 hF => ?_)
     · refine wfx 24 rfl c_3 ?_
       refine rn 12 rfl ?_
       refine ct rfl rfl ?_
       refine rn 1 rfl ?_
       cases hF
       exact rD (rlt rl0) rfl
     · refine wfx 24 rfl c_3 ?_
       refine W.on rfl rfl ?_
       refine W.o (e_faddrD rfl) ?_
       refine W.on rfl rfl ?_
       refine W.o (l1D rfl rfl) ?_
       refine rn 3 rfl ?_
       refine bi hF (fun c_4 hF => ?_) (fun c_4 hF => ?_)
       · refine wfx 29 rfl c_4 ?_
         refine rn 7 rfl ?_
         refine ct rfl rfl ?_
         refine rn 1 rfl ?_
         cases hF
         exact rD (rlt rl0) rfl
       · refine wfx 29 rfl c_4 ?_
         refine rn 4 rfl ?_
         refine bi hF (fun c_5 hF => ?_) (fun c_5 hF => ?_)
         · refine wfx 33 rfl c_5 ?_
           refine rn 3 rfl ?_
           refine ct rfl rfl ?_
           refine rn 1 rfl ?_
           cases hF
           exact rD (rlt rl0) rfl
         · refine wfx 33 rfl c_5 ?_
           refine rn 3 rfl ?_
           refine ci hF rfl (fun c_6 hF => ?_) (fun c_6 hF => ?_)
           · refine rn 1 rfl ?_
             cases hF
             exact rD (rlt rl0) rfl
           · refine rn 0 rfl ?_
             refine W.o (e_faddrD rfl) ?_
             refine W.o (l1D rfl rfl) ?_
             refine W.o (e_len (rd_V rfl)) ?_
             refine rn 1 rfl ?_
             exact w11 (.p1 p ((ls p.Code).length : Int) p.Code ((ls p.Code).length : Int) 0) _ hF _ _ ⟨rfl, rfl, rfl, rfl, rfl, trivial⟩ hs
/-! ### 32: paddock/nfa.fault -/
def C32_1 : ACode := .s (.ops [q 1 (.boxD 3 0), q 2 (.mv (ki 0))]) (.s (.s (.ops [q 3 (.loadN 3 1), qc 4 11 [3], q 5 (.un .not 4)]) (.cond 5 (.s (.ops [q 2 (.mv (ki 100))]) .ret) .skip)) (.s (.s (.ops [q 6 (.loadN 3 1), qc 7 42 [6]]) (.cond 7 (.s (.ops [q 2 (.mv (ki 101))]) .ret) .skip)) (.s (.ops [q 2 (.mv (ki 0))]) .ret)))
def R32 : List RA := [(.tmp 2)]
theorem k32 : compF Try.prog (muL [1]) 32 = some ⟨8, C32_1, R32⟩ := by kernel_rfl
noncomputable abbrev X32 (r : Int) : Cx := cD Try.prog noG 8 R32 (AV.int .i64 r) [1]
noncomputable def F32 (p : T34) : Option Int :=
 (F11 p >>= fun r_1 =>
  (if (!r_1) = true then
   (some 100)
  else
   (F42 p >>= fun r_4 =>
    (if r_4 = true then
     (some 101)
    else
     (some 0)))))
theorem d32 (p : T34) (r : Int) (hF : F32 p = some r) : DFun Try.prog noG 32 [v34 p] (AV.int .i64 r) := by
 unfold F32 at hF
 refine bD k32 rfl ?_
 have hs : SH [] [] := SH.nil
 generalize ([] : Store) = st at hs ⊢
 refine rn 0 rfl ?_
 refine W.o (e_boxD (cs := c34 p) rfl rfl (c34_one _)) ?_
 refine rn 1 rfl ?_
 refine W.o (lND (s := c34 p) rfl rfl rfl) ?_
 obtain ⟨r_1, g_2, hF⟩ := bind_some hF
 refine df (d11 p _ g_2) rfl ?_
 refine rn 1 rfl ?_
 refine ci hF rfl (fun c_3 hF => ?_) (fun c_3 hF => ?_)
 · refine rn 1 rfl ?_
   cases hF
   exact rD (rlt rl0) rfl
 · refine rn 0 rfl ?_
   refine W.o (lND (s := c34 p) rfl rfl rfl) ?_
   obtain ⟨r_4, g_5, hF⟩ := bind_some hF
   refine df (d42 p _ g_5) rfl ?_
   refine rn 0 rfl ?_
   refine ci hF rfl (fun c_6 hF => ?_) (fun c_6 hF => ?_)
   · refine rn 1 rfl ?_
     cases hF
     exact rD (rlt rl0) rfl
   · refine rn 1 rfl ?_
     cases hF
     exact rD (rlt rl0) rfl
/-! ### 23: paddock/nfa.Match -/
def C23_17 : ACode := .s (.ops [q 26 (.build [(.int .i64 0), (.int .i64 0)] []), q0 (.store 2 6 26), q 7 (.mv (.c (.bool false))), q 8 (.mv (ki 2))]) .ret
def C23_36 : ACode := .s (.ops [q 38 (.mv 11), q 39 (.len 38), q 40 (.binI .gtr 39 (ki 0))]) (.cond 40 (.s (.ops [q 41 (.mv 10), q 42 (.mv 11), q 43 (.mv 11), q 44 (.len 43), q 45 (.binI .sub 44 (ki 1)), q 46 (.iaddrL 1 42 45), q 47 (.load1 46), q 48 (.build [(.int .i64 0), (.int .i64 0)] [(0, (1, 41)), (1, (1, 47))]), q0 (.store 2 6 48), q 7 (.mv (.c (.bool true))), q 8 (.mv (ki 0))]) .ret) .skip)
def C23_26 : ACode := .s (.s (.ops [q 28 (.mv 10), q 29 (.mv 1), q 30 (.lenS 29), q 31 (.binI .leq 28 30)]) (.cond 31 .skip (.exit 0))) (.s (.block 1 (.s (.ops [q 34 (.loadN 3 3), q 35 (.mv 1), q 36 (.mv 10), qc 37 33 [34, 35, 36], q 11 (.mv 37)]) C23_36)) (.ops [q 32 (.mv 10), q 33 (.binI .add 32 (ki 1)), q 10 (.mv 33)]))
def C23_44 : ACode := .s (.ops [q 49 (.build [(.int .i64 0), (.int .i64 0)] []), q0 (.store 2 6 49), q 7 (.mv (.c (.bool false))), q 8 (.mv (ki 0))]) .ret
def C23_21 : ACode := .s (.s (.ops [q 27 (.mv 2), q 10 (.mv 27)]) (.block 0 (.loop C23_26))) C23_44
def C23_1 : ACode := .s (.ops [q 3 (.boxD 3 0), q 6 (.alloc [(.int .i64 0), (.int .i64 0)]), q 7 (.mv (.c (.bool false))), q 8 (.mv (ki 0))]) (.s (.s (.ops [q 12 (.loadN 3 3), qc 13 32 [12], q 9 (.mv 13)]) (.s (.ops [q 14 (.mv 9), q 15 (.binI .neq 14 (ki 0))]) (.cond 15 (.s (.ops [q 16 (.build [(.int .i64 0), (.int .i64 0)] []), q 17 (.mv 9), q0 (.store 2 6 16), q 7 (.mv (.c (.bool false))), q 8 (.mv 17)]) .ret) .skip))) (.s (.s (.ops [q 18 (.mv 2), q 19 (.binI .lss 18 (ki 0)), q 20 (.mv 19), (q 21 (.mv 2)).n 20, (q 22 (.mv 1)).n 20, (q 23 (.lenS 22)).n 20, (q 24 (.binI .gtr 21 23)).n 20, q 25 (.pick 20 (.c (.bool true)) 24)]) (.cond 25 C23_17 .skip)) C23_21))
def R23 : List RA := [(.cellN 6 2), (.tmp 7), (.tmp 8)]
theorem k23 : compF Try.prog (muL [3]) 23 = some ⟨50, C23_1, R23⟩ := by kernel_rfl
noncomputable abbrev X23 (r : T56 × Bool × Int) : Cx := cD Try.prog noG 50 R23 (AV.tup [v56 r.1, AV.bool r.2.1, AV.int .i64 r.2.2]) [3]
inductive St23 where
 | p1 (t6_ : T56)
 | p2 (s : Str) (p : T34) (i : Int) (t6_ : T56)
noncomputable def G23 : St23 → Option (T56 × Bool × Int)
 | .p1 t6_ =>
  (some (({ From := 0, To := 0 } : T56), false, 2))
 | .p2 s p i t6_ =>
  (if (decide (i ≤ ((s).length : Int))) = true then
   (F33 p s i >>= fun r_8 =>
    (if (decide (((ls r_8).length : Int) > 0)) = true then
     (ix (ls r_8) (IntKind.wrap .i64 (((ls r_8).length : Int) - 1)) >>= fun v_11 =>
      (some (({ From := i, To := v_11 } : T56), true, 0)))
    else
     (G23 (.p2 s p (IntKind.wrap .i64 (i + 1)) t6_))))
  else
   (some (({ From := 0, To := 0 } : T56), false, 0)))
 partial_fixpoint
def M23 (x : St23) (r : T56 × Bool × Int) : Prop := match x with
 | .p1 t6_ => ∀ (tm : Fr) (st : Store) (io0 : Nat), Frm tm [(6, .ptr io0 0)] → SH st [pt io0 (.cells (c56 t6_))] → W (X23 r) [.code C23_17, .code C23_21] tm st
 | .p2 s p i t6_ => ∀ (tm : Fr) (st : Store) (io0 : Nat), Frm tm [(1, AV.str s), (3, .dptr (c34 p)), (6, .ptr io0 0), (10, AV.int .i64 i)] → SH st [pt io0 (.cells (c56 t6_))] → W (X23 r) [.lp C23_26, .blk 0, .code C23_44] tm st
theorem w23 : ∀ (x : St23) (r : T56 × Bool × Int), G23 x = some r → M23 x r := by
 refine G23.partial_correctness (M23) ?_
 intro g ih x r hF
 cases x with
 | p1 t6_ =>
  dsimp only at hF
  intro tm st io0 hf hs
  refine en hf ?_
  refine rn 0 rfl ?_
  refine W.o (bR (cs := c56 ({ From := 0, To := 0 } : T56)) rfl rfl) ?_
  refine sr hs 0 rfl rfl rfl (cs' := c56 ({ From := 0, To := 0 } : T56)) rfl rfl fun st hs => ?_
  refine rn 2 rfl ?_
  cases hF
  exact rD (rl_cellN rfl (hs.g 0 rfl) (LR.whole _ _) (c56_len _) (rlt (rlt rl0))) rfl
 | p2 s p i t6_ =>
  dsimp only at hF
  intro tm st io0 hf hs
  refine en hf ?_
  refine lp ?_
  refine rn 4 rfl ?_
  refine ci hF rfl (fun c_7 hF => ?_) (fun c_7 hF => ?_)
  · refine rn 0 rfl ?_
    refine W.o (lND (s := c34 p) rfl rfl rfl) ?_
    obtain ⟨r_8, g_9, hF⟩ := bind_some hF
    refine rn 2 rfl ?_
    refine df (d33 p s i _ g_9) rfl ?_
    refine rn 2 rfl ?_
    refine W.o (e_len (rd_V rfl)) ?_
    refine rn 1 rfl ?_
    refine ci hF rfl (fun c_10 hF => ?_) (fun c_10 hF => ?_)
    · refine rn 3 rfl ?_
      refine W.o (e_len (rd_V rfl)) ?_
      obtain ⟨v_11, g_12, hF⟩ := bind_some hF
      refine rn 1 rfl ?_
      refine W.o (e_iaddrL (rd_V rfl) rfl g_12) ?_
      refine W.o (l1D rfl rfl) ?_
      refine W.o (bR (cs := c56 ({ From := i, To := v_11 } : T56)) rfl rfl) ?_
      refine sr hs 0 rfl rfl rfl (cs' := c56 ({ From := i, To := v_11 } : T56)) rfl rfl fun st hs => ?_
      refine rn 2 rfl ?_
      cases hF
      exact rD (rl_cellN rfl (hs.g 0 rfl) (LR.whole _ _) (c56_len _) (rlt (rlt rl0))) rfl
    · refine rn 3 rfl ?_
      exact ih (.p2 s p (IntKind.wrap .i64 (i + 1)) t6_) _ hF _ _ io0 ⟨rfl, rfl, rfl, rfl, trivial⟩ hs
  · refine rn 0 rfl ?_
    refine W.o (bR (cs := c56 ({ From := 0, To := 0 } : T56)) rfl rfl) ?_
    refine sr hs 0 rfl rfl rfl (cs' := c56 ({ From := 0, To := 0 } : T56)) rfl rfl fun st hs => ?_
    refine rn 2 rfl ?_
    cases hF
    exact rD (rl_cellN rfl (hs.g 0 rfl) (LR.whole _ _) (c56_len _) (rlt (rlt rl0))) rfl
noncomputable def F23 (p : T34) (s : Str) (from_ : Int) : Option (T56 × Bool × Int) :=
 (F32 p >>= fun r_2 =>
  (if (r_2 != 0) = true then
   (some (({ From := 0, To := 0 } : T56), false, r_2))
  else
   (if (decide (from_ < 0)) = true then
    (G23 (.p1 ({ From := 0, To := 0 } : T56)))
   else
    (if (decide (from_ > ((s).length : Int))) = true then
     (G23 (.p1 ({ From := 0, To := 0 } : T56)))
    else
     (G23 (.p2 s p from_ ({ From := 0, To := 0 } : T56)))))))
theorem d23 (p : T34) (s : Str) (from_ : Int) (r : T56 × Bool × Int) (hF : F23 p s from_ = some r) : DFun Try.prog noG 23 [v34 p, AV.str s, AV.int .i64 from_] (AV.tup [v56 r.1, AV.bool r.2.1, AV.int .i64 r.2.2]) := by
 unfold F23 at hF
 refine bD k23 rfl ?_
 have hs : SH [] [] := SH.nil
 generalize ([] : Store) = st at hs ⊢
 refine rn 0 rfl ?_
 refine W.o (e_boxD (cs := c34 p) rfl rfl (c34_one _)) ?_
 refine al hs (cs := c56 ({ From := 0, To := 0 } : T56)) rfl fun st b_1 hs => ?_
 refine rn 2 rfl ?_
 refine W.o (lND (s := c34 p) rfl rfl rfl) ?_
 obtain ⟨r_2, g_3, hF⟩ := bind_some hF
 refine df (d32 p _ g_3) rfl ?_
 refine rn 3 rfl ?_
 refine ci hF rfl (fun c_4 hF => ?_) (fun c_4 hF => ?_)
 · refine rn 0 rfl ?_
   refine W.o (bR (cs := c56 ({ From := 0, To := 0 } : T56)) rfl rfl) ?_
   refine rn 1 rfl ?_
   refine sr hs 0 rfl rfl rfl (cs' := c56 ({ From := 0, To := 0 } : T56)) rfl rfl fun st hs => ?_
   refine rn 2 rfl ?_
   cases hF
   exact rD (rl_cellN rfl (hs.g 0 rfl) (LR.whole _ _) (c56_len _) (rlt (rlt rl0))) rfl
 · refine rn 3 rfl ?_
   refine bi hF (fun c_5 hF => ?_) (fun c_5 hF => ?_)
   · refine wfx 20 rfl c_5 ?_
     refine rn 5 rfl ?_
     refine ct rfl rfl ?_
     exact w23 (.p1 ({ From := 0, To := 0 } : T56)) _ hF _ _ b_1 ⟨rfl, trivial⟩ hs
   · refine wfx 20 rfl c_5 ?_
     refine rn 5 rfl ?_
     refine ci hF rfl (fun c_6 hF => ?_) (fun c_6 hF => ?_)
     · exact w23 (.p1 ({ From := 0, To := 0 } : T56)) _ hF _ _ b_1 ⟨rfl, trivial⟩ hs
     · refine rn 2 rfl ?_
       exact w23 (.p2 s p from_ ({ From := 0, To := 0 } : T56)) _ hF _ _ b_1 ⟨rfl, rfl, rfl, rfl, trivial⟩ hs
/-! ### 8: paddock/paddocklaw10.begins -/
def O8_14o1 : List AOp := (q 55 (.loadN 2 7)).y 54 :: (q 56 (.build [(.int .i64 0), (.int .i64 0)] [(0, (1, (ki 1))), (1, (1, (ki 3)))])).y 54 :: (q 57 (.eqA false [.i, .i] 55 56)).y 54 :: q 58 (.pick 54 57 (.c (.bool false))) :: q 0 (.mv 58) :: []
def O8_14o0 : List AOp := q 31 (.mv 4) :: q 32 (.binI .eql 31 (ki 0)) :: q 33 (.mv 32) :: (q 34 (.mv 6)).y 33 :: (q 35 (.binI .eql 34 (ki 0))).y 33 :: q 36 (.pick 33 35 (.c (.bool false))) :: q 37 (.mv 36) :: (q 38 (.mv 5)).y 37 :: (q 39 (.binI .eql 38 (ki 7))).y 37 :: q 40 (.pick 37 39 (.c (.bool false))) :: q 41 (.mv 40) :: (q 42 (.faddr 2 3)).y 41 :: (q 43 (.load1 42)).y 41 :: (q 44 (.len 43)).y 41 :: (q 45 (.binI .eql 44 (ki 7))).y 41 :: q 46 (.pick 41 45 (.c (.bool false))) :: q 47 (.mv 46) :: (q 48 (.mv 9)).y 47 :: (q 49 (.binI .eql 48 (ki 0))).y 47 :: q 50 (.pick 47 49 (.c (.bool false))) :: q 51 (.mv 50) :: (q 52 (.mv 8)).y 51 :: q 53 (.pick 51 52 (.c (.bool false))) :: q 54 (.mv 53) :: O8_14o1
def C8_1 : ACode := .s (.ops [q 0 (.mv (.c (.bool false)))]) (.s (.ops [q 10 (.build [(.int .u64 0), (.int .u64 0), (.int .u64 0), (.int .u64 0)] [(0, (1, (.c (.int .u64 0)))), (1, (1, (.c (.int .u64 8589934592))))]), q 1 (.alloc [(.int .u64 0), (.int .u64 0), (.int .u64 0), (.int .u64 0)]), q0 (.store 4 1 10)]) (.s (.ops [q 11 (.loadN 4 1), q 12 (.build [(.int .u8 0), (.int .u64 0), (.int .u64 0), (.int .u64 0), (.int .u64 0), (.int .i64 0), (.int .i64 0), (.int .i64 0), .nils] [(0, (1, (ku 2))), (1, (4, 11))]), q 13 (.bslD 9 1 true [(.int .u8 0), (.int .u64 0), (.int .u64 0), (.int .u64 0), (.int .u64 0), (.int .i64 0), (.int .i64 0), (.int .i64 0), .nils] [(0, (9, 12))]), q 14 (.build [(.int .u8 0), (.int .u64 0), (.int .u64 0), (.int .u64 0), (.int .u64 0), (.int .i64 0), (.int .i64 0), (.int .i64 0), .nils] [(0, (1, (ku 5))), (5, (1, (ki 1))), (6, (1, (ki (-1)))), (8, (1, 13))]), q 2 (.alloc [(.int .u8 0), (.int .u64 0), (.int .u64 0), (.int .u64 0), (.int .u64 0), (.int .i64 0), (.int .i64 0), (.int .i64 0), .nils]), q0 (.store 9 2 14)]) (.s (.ops [q 16 (.loadN 9 2), qc 17 10 [16], q 15 (.mv 17), q 18 (.extract 15 0), q 19 (.extract 15 1), q 3 (.alloc [(.int .i64 0), (.int .i64 0), .nils]), q0 (.store 3 3 18), q 4 (.mv 19)]) (.s (.ops [q 21 (.loadN 9 2), qc 22 9 [21], q 20 (.mv 22), q 23 (.extract 20 0), q 24 (.extract 20 1), q 5 (.mv 23), q 6 (.mv 24)]) (.s (.ops [q 26 (.loadN 3 3), qc 27 23 [26, (.c (.str [98, 97, 97])), (ki 0)], q 25 (.mv 27), q 28 (.extract 25 0), q 29 (.extract 25 1), q 30 (.extract 25 2), q 7 (.alloc [(.int .i64 0), (.int .i64 0)]), q0 (.store 2 7 28), q 8 (.mv 29), q 9 (.mv 30)]) (.s (.ops O8_14o0) .ret))))))
def R8 : List RA := [(.tmp 0)]
theorem k8 : compF Try.prog (muL [13]) 8 = some ⟨59, C8_1, R8⟩ := by kernel_rfl
noncomputable abbrev X8 (r : Bool) : Cx := cD Try.prog noG 59 R8 (AV.bool r) [13]
noncomputable def F8  : Option Bool :=
 (F10 ({ Kind := 5, Set := (Arr.rep 4 0), Min := 1, Max := (-1), Group := 0, Kids := (some ([({ Kind := 2, Set := (aset (aset (Arr.rep 4 0) 0 0) 1 8589934592), Min := 0, Max := 0, Group := 0, Kids := none } : T27)] : List T27)) } : T27) >>= fun r_3 =>
  (F9 ({ Kind := 5, Set := (Arr.rep 4 0), Min := 1, Max := (-1), Group := 0, Kids := (some ([({ Kind := 2, Set := (aset (aset (Arr.rep 4 0) 0 0) 1 8589934592), Min := 0, Max := 0, Group := 0, Kids := none } : T27)] : List T27)) } : T27) >>= fun r_6 =>
   (F23 r_3.1 ([98, 97, 97] : Str) 0 >>= fun r_8 =>
    (if (r_3.2 == 0) = true then
     (if (r_6.2 == 0) = true then
      (if (r_6.1 == 7) = true then
       (if (((ls r_3.1.Code).length : Int) == 7) = true then
        (if (r_8.2.2 == 0) = true then
         (if r_8.2.1 = true then
          (some (decide (r_8.1 = ({ From := 1, To := 3 } : T56))))
         else
          (some false))
        else
         (some false))
       else
        (some false))
      else
       (some false))
     else
      (some false))
    else
     (some false)))))
theorem d8  (r : Bool) (hF : F8 = some r) : DFun Try.prog noG 8 [] (AV.bool r) := by
 unfold F8 at hF
 refine bD k8 rfl ?_
 have hs : SH [] [] := SH.nil
 generalize ([] : Store) = st at hs ⊢
 refine rn 1 rfl ?_
 refine W.o (e_build (z := [(.int .u64 0), (.int .u64 0), (.int .u64 0), (.int .u64 0)]) (cs := c24 (aset (aset (Arr.rep 4 0) 0 0) 1 8589934592)) (pk_cons (cs := cI .u64 0) rfl rfl ((cI_len .u64) _) (by decide) (pk_cons (cs := cI .u64 8589934592) rfl rfl ((cI_len .u64) _) (by decide) pk_nil)) (show fillA (c24 (Arr.rep 4 0)) _ = _ from (fl_cons (lrF_set (i := 0) (x := 0) (cI_len .u64) rfl 0) (((cI_len .u64) _).trans ((cI_len .u64) _).symm) (fl_cons (lrF_set (i := 1) (x := 0) (cI_len .u64) rfl 8589934592) (((cI_len .u64) _).trans ((cI_len .u64) _).symm) (fl_nil _))))) ?_
 refine al hs (cs := c24 (Arr.rep 4 0)) rfl fun st b_1 hs => ?_
 refine sr hs 0 rfl rfl rfl (cs' := c24 (aset (aset (Arr.rep 4 0) 0 0) 1 8589934592)) rfl rfl fun st hs => ?_
 refine rn 0 rfl ?_
 refine W.o (lN (s := c24 (aset (aset (Arr.rep 4 0) 0 0) 1 8589934592)) rfl (hs.g 0 rfl) rfl rfl) ?_
 refine W.o (e_build (z := [(.int .u8 0), (.int .u64 0), (.int .u64 0), (.int .u64 0), (.int .u64 0), (.int .i64 0), (.int .i64 0), (.int .i64 0), .nils]) (cs := c27 ({ Kind := 2, Set := (aset (aset (Arr.rep 4 0) 0 0) 1 8589934592), Min := 0, Max := 0, Group := 0, Kids := none } : T27)) (pk_cons (cs := cI .u8 2) rfl rfl ((cI_len .u8) _) (by decide) (pk_cons (cs := c24 (aset (aset (Arr.rep 4 0) 0 0) 1 8589934592)) rfl rfl (c24_len _) (by decide) pk_nil)) (show fillA (c27 ({ Kind := 0, Set := (Arr.rep 4 0), Min := 0, Max := 0, Group := 0, Kids := none } : T27)) _ = _ from (fl_cons (lr27_Kind ({ Kind := 0, Set := (Arr.rep 4 0), Min := 0, Max := 0, Group := 0, Kids := none } : T27) 2) (((cI_len .u8) _).trans ((cI_len .u8) _).symm) (fl_cons (lr27_Set ({ Kind := 2, Set := (Arr.rep 4 0), Min := 0, Max := 0, Group := 0, Kids := none } : T27) (aset (aset (Arr.rep 4 0) 0 0) 1 8589934592)) ((c24_len _).trans (c24_len _).symm) (fl_nil _))))) ?_
 refine W.o (e_bslG (f := v27) (c := c27) ([({ Kind := 2, Set := (aset (aset (Arr.rep 4 0) 0 0) 1 8589934592), Min := 0, Max := 0, Group := 0, Kids := none } : T27)] : List T27) (pk_cons (cs := c27 ({ Kind := 2, Set := (aset (aset (Arr.rep 4 0) 0 0) 1 8589934592), Min := 0, Max := 0, Group := 0, Kids := none } : T27)) rfl rfl (c27_len _) (by decide) pk_nil) rfl rfl c27_len c27_one (fun _ => rfl) rfl) ?_
 refine W.o (e_build (z := [(.int .u8 0), (.int .u64 0), (.int .u64 0), (.int .u64 0), (.int .u64 0), (.int .i64 0), (.int .i64 0), (.int .i64 0), .nils]) (cs := c27 ({ Kind := 5, Set := (Arr.rep 4 0), Min := 1, Max := (-1), Group := 0, Kids := (some ([({ Kind := 2, Set := (aset (aset (Arr.rep 4 0) 0 0) 1 8589934592), Min := 0, Max := 0, Group := 0, Kids := none } : T27)] : List T27)) } : T27)) (pk_cons (cs := cI .u8 5) rfl rfl ((cI_len .u8) _) (by decide) (pk_cons (cs := cI .i64 1) rfl rfl ((cI_len .i64) _) (by decide) (pk_cons (cs := cI .i64 (-1)) rfl rfl ((cI_len .i64) _) (by decide) (pk_cons (cs := cSl 9 v27 (some ([({ Kind := 2, Set := (aset (aset (Arr.rep 4 0) 0 0) 1 8589934592), Min := 0, Max := 0, Group := 0, Kids := none } : T27)] : List T27))) (v := slV 9 v27 (some ([({ Kind := 2, Set := (aset (aset (Arr.rep 4 0) 0 0) 1 8589934592), Min := 0, Max := 0, Group := 0, Kids := none } : T27)] : List T27))) rfl slV_cells (cSl_len _) (by decide) pk_nil)))) (show fillA (c27 ({ Kind := 0, Set := (Arr.rep 4 0), Min := 0, Max := 0, Group := 0, Kids := none } : T27)) _ = _ from (fl_cons (lr27_Kind ({ Kind := 0, Set := (Arr.rep 4 0), Min := 0, Max := 0, Group := 0, Kids := none } : T27) 5) (((cI_len .u8) _).trans ((cI_len .u8) _).symm) (fl_cons (lr27_Min ({ Kind := 5, Set := (Arr.rep 4 0), Min := 0, Max := 0, Group := 0, Kids := none } : T27) 1) (((cI_len .i64) _).trans ((cI_len .i64) _).symm) (fl_cons (lr27_Max ({ Kind := 5, Set := (Arr.rep 4 0), Min := 1, Max := 0, Group := 0, Kids := none } : T27) (-1)) (((cI_len .i64) _).trans ((cI_len .i64) _).symm) (fl_cons (lr27_Kids ({ Kind := 5, Set := (Arr.rep 4 0), Min := 1, Max := (-1), Group := 0, Kids := none } : T27) (some ([({ Kind := 2, Set := (aset (aset (Arr.rep 4 0) 0 0) 1 8589934592), Min := 0, Max := 0, Group := 0, Kids := none } : T27)] : List T27))) ((cSl_len _).trans (cSl_len _).symm) (fl_nil _))))))) ?_
 refine al hs (cs := c27 ({ Kind := 0, Set := (Arr.rep 4 0), Min := 0, Max := 0, Group := 0, Kids := none } : T27)) rfl fun st b_2 hs => ?_
 refine sl hs 0 rfl rfl (LR.whole _ _) (c27_len _) rfl (c27_len _) (c27_one _) rfl fun st hs => ?_
 refine rn 0 rfl ?_
 refine W.o (e_loadN rfl (hs.g 0 rfl) (LR.whole _ _) (c27_len _)) ?_
 obtain ⟨r_3, g_4, hF⟩ := bind_some hF
 refine df (d10 ({ Kind := 5, Set := (Arr.rep 4 0), Min := 1, Max := (-1), Group := 0, Kids := (some ([({ Kind := 2, Set := (aset (aset (Arr.rep 4 0) 0 0) 1 8589934592), Min := 0, Max := 0, Group := 0, Kids := none } : T27)] : List T27)) } : T27) _ g_4) rfl ?_
 refine rn 3 rfl ?_
 refine al hs (cs := c34 ({ Groups := 0, Slots := 0, Code := none } : T34)) rfl fun st b_5 hs => ?_
 refine sl hs 0 rfl rfl (LR.whole _ _) (c34_len _) rfl (c34_len _) (c34_one _) rfl fun st hs => ?_
 refine rn 1 rfl ?_
 refine W.o (e_loadN rfl (hs.g 1 rfl) (LR.whole _ _) (c27_len _)) ?_
 obtain ⟨r_6, g_7, hF⟩ := bind_some hF
 refine df (d9 ({ Kind := 5, Set := (Arr.rep 4 0), Min := 1, Max := (-1), Group := 0, Kids := (some ([({ Kind := 2, Set := (aset (aset (Arr.rep 4 0) 0 0) 1 8589934592), Min := 0, Max := 0, Group := 0, Kids := none } : T27)] : List T27)) } : T27) _ g_7) rfl ?_
 refine rn 5 rfl ?_
 refine W.o (lN (s := c34 r_3.1) rfl (hs.g 0 rfl) rfl rfl) ?_
 obtain ⟨r_8, g_9, hF⟩ := bind_some hF
 refine df (d23 r_3.1 ([98, 97, 97] : Str) 0 _ g_9) rfl ?_
 refine rn 4 rfl ?_
 refine al hs (cs := c56 ({ From := 0, To := 0 } : T56)) rfl fun st b_10 hs => ?_
 refine sr hs 0 rfl rfl rfl (cs' := c56 r_8.1) rfl rfl fun st hs => ?_
 refine rn 5 rfl ?_
 refine bi hF (fun c_11 hF => ?_) (fun c_11 hF => ?_)
 · refine wfx 33 rfl c_11 ?_
   refine rn 4 rfl ?_
   refine bi hF (fun c_12 hF => ?_) (fun c_12 hF => ?_)
   · refine wfx 37 rfl c_12 ?_
     refine rn 4 rfl ?_
     refine bi hF (fun c_13 hF => ?_) (fun c_13 hF => ?_)
     · refine wfx 41 rfl c_13 ?_
       refine W.on rfl rfl ?_
       refine W.o (e_faddr rfl (hs.g 1 rfl)) ?_
       refine W.on rfl rfl ?_
       refine W.o (l1 rfl (hs.g 1 rfl) rfl) ?_
       refine W.on rfl rfl ?_
       refine W.o (e_len (rd_V rfl)) ?_
       refine rn 3 rfl ?_
       refine bi hF (fun c_14 hF => ?_) (fun c_14 hF => ?_)
       · refine wfx 47 rfl c_14 ?_
         refine rn 4 rfl ?_
         refine bi hF (fun c_15 hF => ?_) (fun c_15 hF => ?_)
         · refine wfx 51 rfl c_15 ?_
           refine rn 3 rfl ?_
           refine bi hF (fun c_16 hF => ?_) (fun c_16 hF => ?_)
           · refine wfx 54 rfl c_16 ?_
             refine W.on rfl rfl ?_
             refine W.o (lN (s := c56 r_8.1) rfl (hs.g 0 rfl) rfl rfl) ?_
             refine W.on rfl rfl ?_
             refine W.o (bR (cs := c56 ({ From := 1, To := 3 } : T56)) rfl rfl) ?_
             refine W.on rfl rfl ?_
             refine W.o (e_eqA rfl rfl (c56_eq r_8.1 ({ From := 1, To := 3 } : T56))) ?_
             refine rn 2 rfl ?_
             cases hF
             exact rD (rlt rl0) rfl
           · refine wfx 54 rfl c_16 ?_
             refine rn 5 rfl ?_
             cases hF
             exact rD (rlt rl0) rfl
         · refine wfx 51 rfl c_15 ?_
           refine rn 8 rfl ?_
           cases hF
           exact rD (rlt rl0) rfl
       · refine wfx 47 rfl c_14 ?_
         refine rn 12 rfl ?_
         cases hF
         exact rD (rlt rl0) rfl
     · refine wfx 41 rfl c_13 ?_
       refine rn 18 rfl ?_
       cases hF
       exact rD (rlt rl0) rfl
   · refine wfx 37 rfl c_12 ?_
     refine rn 22 rfl ?_
     cases hF
     exact rD (rlt rl0) rfl
 · refine wfx 33 rfl c_11 ?_
   refine rn 26 rfl ?_
   cases hF
   exact rD (rlt rl0) rfl
/-! ### 3: paddock/paddocklaw10.NfaSizes -/
def O3_17o1 : List AOp := (q 43 (.pick 39 (.c (.bool true)) 42)).y 25 :: (q 44 (.pick 25 43 (.c (.bool false)))).n 22 :: q 45 (.pick 22 (.c (.bool true)) 44) :: []
def O3_17o0 : List AOp := q 19 (.mv 4) :: q 20 (.mv 6) :: q 21 (.binI .neq 19 20) :: q 22 (.mv 21) :: (q 23 (.mv 4)).n 22 :: (q 24 (.binI .eql 23 (ki 0))).n 22 :: (q 25 (.mv 24)).n 22 :: (q 26 (.faddr 2 5)).y 25 :: (q 27 (.load1 26)).y 25 :: (q 28 (.len 27)).y 25 :: (q 29 (.mv 3)).y 25 :: (q 30 (.binI .neq 28 29)).y 25 :: (q 31 (.mv 30)).y 25 :: (q 32 (.mv 3)).n 31 :: (q 33 (.binI .lss 32 (ki 1))).n 31 :: (q 34 (.pick 31 (.c (.bool true)) 33)).y 25 :: (q 35 (.mv 34)).y 25 :: (q 36 (.mv 3)).n 35 :: (q 37 (.binI .gtr 36 (ki 16384))).n 35 :: (q 38 (.pick 35 (.c (.bool true)) 37)).y 25 :: (q 39 (.mv 38)).y 25 :: (q 40 (.loadN 3 5)).n 39 :: (qc 41 11 [40]).n 39 :: (q 42 (.un .not 41)).n 39 :: O3_17o1
def C3_23 : ACode := .s (.ops [q 46 (.mv 4), q 47 (.binI .eql 46 (ki 0)), q 48 (.mv 47), (q 49 (.faddr 2 5)).n 48, (q 50 (.load1 49)).n 48, (q 51 (.len 50)).n 48, (q 52 (.binI .eql 51 (ki 0))).n 48, (q 53 (.mv 52)).n 48, (q 54 (.mv 3)).y 53, (q 55 (.binI .eql 54 (ki 0))).y 53, (q 56 (.pick 53 55 (.c (.bool false)))).n 48, q 57 (.pick 48 (.c (.bool true)) 56), q 58 (.mv 57), (q 59 (.loadN 9 1)).y 58, (qc 60 12 [59]).y 58, (q 61 (.binI .eql 60 (ki 0))).y 58, (q 62 (.mv 61)).y 58, (q 63 (.mv 4)).n 62, (q 64 (.loadN 9 1)).n 62, (qc 65 12 [64]).n 62, (q 66 (.binI .eql 63 65)).n 62, (q 67 (.pick 62 (.c (.bool true)) 66)).y 58, q 68 (.pick 58 67 (.c (.bool false))), q 2 (.mv 68)]) .ret
def C3_1 : ACode := .s (.ops [q 1 (.boxD 9 0), q 2 (.mv (.c (.bool false)))]) (.s (.s (.ops [qc 7 8 [], q 8 (.un .not 7)]) (.cond 8 (.s (.ops [q 2 (.mv (.c (.bool false)))]) .ret) .skip)) (.s (.ops [q 10 (.loadN 9 1), qc 11 9 [10], q 9 (.mv 11), q 12 (.extract 9 0), q 13 (.extract 9 1), q 3 (.mv 12), q 4 (.mv 13)]) (.s (.ops [q 15 (.loadN 9 1), qc 16 10 [15], q 14 (.mv 16), q 17 (.extract 14 0), q 18 (.extract 14 1), q 5 (.alloc [(.int .i64 0), (.int .i64 0), .nils]), q0 (.store 3 5 17), q 6 (.mv 18)]) (.s (.s (.ops O3_17o0) (.cond 45 (.s (.ops [q 2 (.mv (.c (.bool false)))]) .ret) .skip)) C3_23))))
def R3 : List RA := [(.tmp 2)]
theorem k3 : compF Try.prog (muL [1]) 3 = some ⟨69, C3_1, R3⟩ := by kernel_rfl
noncomputable abbrev X3 (r : Bool) : Cx := cD Try.prog noG 69 R3 (AV.bool r) [1]
inductive St3 where
 | p1 (n : T27) (k : Int) (why : Int) (p : T34)
noncomputable def G3 : St3 → Option Bool
 | .p1 n k why p =>
  (if (why == 0) = true then
   (F12 n >>= fun r_18 =>
    (if (r_18 == 0) = true then
     (some true)
    else
     (F12 n >>= fun r_21 =>
      (some (why == r_21)))))
  else
   (if (((ls p.Code).length : Int) == 0) = true then
    (if (k == 0) = true then
     (F12 n >>= fun r_25 =>
      (if (r_25 == 0) = true then
       (some true)
      else
       (F12 n >>= fun r_28 =>
        (some (why == r_28)))))
    else
     (some false))
   else
    (some false)))
def M3 (x : St3) (r : Bool) : Prop := match x with
 | .p1 n k why p => ∀ (tm : Fr) (st : Store) (io0 : Nat), Frm tm [(1, .dptr (c27 n)), (3, AV.int .i64 k), (4, AV.int .i64 why), (5, .ptr io0 0)] → SH st [pt io0 (.cells (c34 p))] → W (X3 r) [.code C3_23] tm st
theorem w3 : ∀ (x : St3) (r : Bool), G3 x = some r → M3 x r := by
 intro x r hF
 cases x with
 | p1 n k why p =>
  dsimp only [G3] at hF
  intro tm st io0 hf hs
  refine en hf ?_
  refine rn 3 rfl ?_
  refine bi hF (fun c_17 hF => ?_) (fun c_17 hF => ?_)
  · refine wfx 48 rfl c_17 ?_
    refine rn 10 rfl ?_
    refine W.on rfl rfl ?_
    refine W.o (e_loadND rfl (DP.refl _) (c27_len _)) ?_
    obtain ⟨r_18, g_19, hF⟩ := bind_some hF
    refine W.on rfl rfl ?_
    refine df (d12 n _ g_19) rfl ?_
    refine rn 2 rfl ?_
    refine bi hF (fun c_20 hF => ?_) (fun c_20 hF => ?_)
    · refine wfx 62 rfl c_20 ?_
      refine rn 7 rfl ?_
      cases hF
      exact rD (rlt rl0) rfl
    · refine wfx 62 rfl c_20 ?_
      refine rn 1 rfl ?_
      refine W.on rfl rfl ?_
      refine W.o (e_loadND rfl (DP.refl _) (c27_len _)) ?_
      obtain ⟨r_21, g_22, hF⟩ := bind_some hF
      refine W.on rfl rfl ?_
      refine df (d12 n _ g_22) rfl ?_
      refine rn 4 rfl ?_
      cases hF
      exact rD (rlt rl0) rfl
  · refine wfx 48 rfl c_17 ?_
    refine W.on rfl rfl ?_
    refine W.o (e_faddr rfl (hs.g 0 rfl)) ?_
    refine W.on rfl rfl ?_
    refine W.o (l1 rfl (hs.g 0 rfl) rfl) ?_
    refine W.on rfl rfl ?_
    refine W.o (e_len (rd_V rfl)) ?_
    refine rn 2 rfl ?_
    refine bi hF (fun c_23 hF => ?_) (fun c_23 hF => ?_)
    · refine wfx 53 rfl c_23 ?_
      refine rn 5 rfl ?_
      refine bi hF (fun c_24 hF => ?_) (fun c_24 hF => ?_)
      · refine wfx 58 rfl c_24 ?_
        refine W.on rfl rfl ?_
        refine W.o (e_loadND rfl (DP.refl _) (c27_len _)) ?_
        obtain ⟨r_25, g_26, hF⟩ := bind_some hF
        refine W.on rfl rfl ?_
        refine df (d12 n _ g_26) rfl ?_
        refine rn 2 rfl ?_
        refine bi hF (fun c_27 hF => ?_) (fun c_27 hF => ?_)
        · refine wfx 62 rfl c_27 ?_
          refine rn 7 rfl ?_
          cases hF
          exact rD (rlt rl0) rfl
        · refine wfx 62 rfl c_27 ?_
          refine rn 1 rfl ?_
          refine W.on rfl rfl ?_
          refine W.o (e_loadND rfl (DP.refl _) (c27_len _)) ?_
          obtain ⟨r_28, g_29, hF⟩ := bind_some hF
          refine W.on rfl rfl ?_
          refine df (d12 n _ g_29) rfl ?_
          refine rn 4 rfl ?_
          cases hF
          exact rD (rlt rl0) rfl
      · refine wfx 58 rfl c_24 ?_
        refine rn 11 rfl ?_
        cases hF
        exact rD (rlt rl0) rfl
    · refine wfx 53 rfl c_23 ?_
      refine rn 16 rfl ?_
      cases hF
      exact rD (rlt rl0) rfl
noncomputable def F3 (n : T27) : Option Bool :=
 (F8 >>= fun r_1 =>
  (if (!r_1) = true then
   (some false)
  else
   (F9 n >>= fun r_4 =>
    (F10 n >>= fun r_6 =>
     (if (r_4.2 != r_6.2) = true then
      (some false)
     else
      (if (r_4.2 == 0) = true then
       (if (((ls r_6.1.Code).length : Int) != r_4.1) = true then
        (some false)
       else
        (if (decide (r_4.1 < 1)) = true then
         (some false)
        else
         (if (decide (r_4.1 > 16384)) = true then
          (some false)
         else
          (F11 r_6.1 >>= fun r_14 =>
           (if (!r_14) = true then
            (some false)
           else
            (G3 (.p1 n r_4.1 r_4.2 r_6.1)))))))
      else
       (G3 (.p1 n r_4.1 r_4.2 r_6.1))))))))
theorem d3 (n : T27) (r : Bool) (hF : F3 n = some r) : DFun Try.prog noG 3 [v27 n] (AV.bool r) := by
 unfold F3 at hF
 refine bD k3 rfl ?_
 have hs : SH [] [] := SH.nil
 generalize ([] : Store) = st at hs ⊢
 refine rn 0 rfl ?_
 refine W.o (e_boxD (cs := c27 n) rfl (by rw [c27_len]; rfl) (c27_one _)) ?_
 obtain ⟨r_1, g_2, hF⟩ := bind_some hF
 refine rn 1 rfl ?_
 refine df (d8 _ g_2) rfl ?_
 refine rn 1 rfl ?_
 refine ci hF rfl (fun c_3 hF => ?_) (fun c_3 hF => ?_)
 · refine rn 1 rfl ?_
   cases hF
   exact rD (rlt rl0) rfl
 · refine rn 0 rfl ?_
   refine W.o (e_loadND rfl (DP.refl _) (c27_len _)) ?_
   obtain ⟨r_4, g_5, hF⟩ := bind_some hF
   refine df (d9 n _ g_5) rfl ?_
   refine rn 5 rfl ?_
   refine W.o (e_loadND rfl (DP.refl _) (c27_len _)) ?_
   obtain ⟨r_6, g_7, hF⟩ := bind_some hF
   refine df (d10 n _ g_7) rfl ?_
   refine rn 3 rfl ?_
   refine al hs (cs := c34 ({ Groups := 0, Slots := 0, Code := none } : T34)) rfl fun st b_8 hs => ?_
   refine sl hs 0 rfl rfl (LR.whole _ _) (c34_len _) rfl (c34_len _) (c34_one _) rfl fun st hs => ?_
   refine rn 5 rfl ?_
   refine bi hF (fun c_9 hF => ?_) (fun c_9 hF => ?_)
   · refine wfx 22 rfl c_9 ?_
     refine rn 23 rfl ?_
     refine ct rfl rfl ?_
     refine rn 1 rfl ?_
     cases hF
     exact rD (rlt rl0) rfl
   · refine wfx 22 rfl c_9 ?_
     refine rn 3 rfl ?_
     refine bi hF (fun c_10 hF => ?_) (fun c_10 hF => ?_)
     · refine wfx 25 rfl c_10 ?_
       refine W.on rfl rfl ?_
       refine W.o (e_faddr rfl (hs.g 0 rfl)) ?_
       refine W.on rfl rfl ?_
       refine W.o (l1 rfl (hs.g 0 rfl) rfl) ?_
       refine W.on rfl rfl ?_
       refine W.o (e_len (rd_V rfl)) ?_
       refine rn 3 rfl ?_
       refine bi hF (fun c_11 hF => ?_) (fun c_11 hF => ?_)
       · refine wfx 31 rfl c_11 ?_
         refine rn 14 rfl ?_
         refine ct rfl rfl ?_
         refine rn 1 rfl ?_
         cases hF
         exact rD (rlt rl0) rfl
       · refine wfx 31 rfl c_11 ?_
         refine rn 4 rfl ?_
         refine bi hF (fun c_12 hF => ?_) (fun c_12 hF => ?_)
         · refine wfx 35 rfl c_12 ?_
           refine rn 10 rfl ?_
           refine ct rfl rfl ?_
           refine rn 1 rfl ?_
           cases hF
           exact rD (rlt rl0) rfl
         · refine wfx 35 rfl c_12 ?_
           refine rn 4 rfl ?_
           refine bi hF (fun c_13 hF => ?_) (fun c_13 hF => ?_)
           · refine wfx 39 rfl c_13 ?_
             refine rn 6 rfl ?_
             refine ct rfl rfl ?_
             refine rn 1 rfl ?_
             cases hF
             exact rD (rlt rl0) rfl
           · refine wfx 39 rfl c_13 ?_
             refine W.on rfl rfl ?_
             refine W.o (lN (s := c34 r_6.1) rfl (hs.g 0 rfl) rfl rfl) ?_
             obtain ⟨r_14, g_15, hF⟩ := bind_some hF
             refine W.on rfl rfl ?_
             refine df (d11 r_6.1 _ g_15) rfl ?_
             refine rn 4 rfl ?_
             refine ci hF rfl (fun c_16 hF => ?_) (fun c_16 hF => ?_)
             · refine rn 1 rfl ?_
               cases hF
               exact rD (rlt rl0) rfl
             · refine rj 0 1 rfl ?_
               exact w3 (.p1 n r_4.1 r_4.2 r_6.1) _ hF _ _ b_8 ⟨rfl, rfl, rfl, rfl, trivial⟩ hs
     · refine wfx 25 rfl c_10 ?_
       refine rn 20 rfl ?_
       refine cf rfl rfl ?_
       refine rj 0 1 rfl ?_
       exact w3 (.p1 n r_4.1 r_4.2 r_6.1) _ hF _ _ b_8 ⟨rfl, rfl, rfl, rfl, trivial⟩ hs
/-! ### 17: paddock/nfa.Ends -/
def C17_1 : ACode := .s (.ops [q 3 (.boxD 3 0), q 6 (.mv (.c .nils)), q 7 (.mv (ki 0))]) (.s (.s (.ops [q 9 (.loadN 3 3), qc 10 32 [9], q 8 (.mv 10)]) (.s (.ops [q 11 (.mv 8), q 12 (.binI .neq 11 (ki 0))]) (.cond 12 (.s (.ops [q 13 (.mv 8), q 6 (.mv (.c .nils)), q 7 (.mv 13)]) .ret) .skip))) (.s (.s (.ops [q 14 (.mv 2), q 15 (.binI .lss 14 (ki 0)), q 16 (.mv 15), (q 17 (.mv 2)).n 16, (q 18 (.mv 1)).n 16, (q 19 (.lenS 18)).n 16, (q 20 (.binI .gtr 17 19)).n 16, q 21 (.pick 16 (.c (.bool true)) 20)]) (.cond 21 (.s (.ops [q 6 (.mv (.c .nils)), q 7 (.mv (ki 2))]) .ret) .skip)) (.s (.ops [q 22 (.loadN 3 3), q 23 (.mv 1), q 24 (.mv 2), qc 25 33 [22, 23, 24], q 6 (.mv 25), q 7 (.mv (ki 0))]) .ret)))
def R17 : List RA := [(.tmp 6), (.tmp 7)]
theorem k17 : compF Try.prog (muL [3]) 17 = some ⟨26, C17_1, R17⟩ := by kernel_rfl
noncomputable abbrev X17 (r : Sl Int × Int) : Cx := cD Try.prog noG 26 R17 (AV.tup [slV 1 (AV.int .i64) r.1, AV.int .i64 r.2]) [3]
noncomputable def F17 (p : T34) (s : Str) (from_ : Int) : Option (Sl Int × Int) :=
 (F32 p >>= fun r_1 =>
  (if (r_1 != 0) = true then
   (some (none, r_1))
  else
   (if (decide (from_ < 0)) = true then
    (some (none, 2))
   else
    (if (decide (from_ > ((s).length : Int))) = true then
     (some (none, 2))
    else
     (F33 p s from_ >>= fun r_6 =>
      (some (r_6, 0)))))))
theorem d17 (p : T34) (s : Str) (from_ : Int) (r : Sl Int × Int) (hF : F17 p s from_ = some r) : DFun Try.prog noG 17 [v34 p, AV.str s, AV.int .i64 from_] (AV.tup [slV 1 (AV.int .i64) r.1, AV.int .i64 r.2]) := by
 unfold F17 at hF
 refine bD k17 rfl ?_
 have hs : SH [] [] := SH.nil
 generalize ([] : Store) = st at hs ⊢
 refine rn 0 rfl ?_
 refine W.o (e_boxD (cs := c34 p) rfl rfl (c34_one _)) ?_
 refine rn 2 rfl ?_
 refine W.o (lND (s := c34 p) rfl rfl rfl) ?_
 obtain ⟨r_1, g_2, hF⟩ := bind_some hF
 refine df (d32 p _ g_2) rfl ?_
 refine rn 3 rfl ?_
 refine ci hF rfl (fun c_3 hF => ?_) (fun c_3 hF => ?_)
 · refine rn 3 rfl ?_
   cases hF
   exact rD (rlt (rlt rl0)) rfl
 · refine rn 3 rfl ?_
   refine bi hF (fun c_4 hF => ?_) (fun c_4 hF => ?_)
   · refine wfx 16 rfl c_4 ?_
     refine rn 5 rfl ?_
     refine ct rfl rfl ?_
     refine rn 2 rfl ?_
     cases hF
     exact rD (rlt (rlt rl0)) rfl
   · refine wfx 16 rfl c_4 ?_
     refine rn 5 rfl ?_
     refine ci hF rfl (fun c_5 hF => ?_) (fun c_5 hF => ?_)
     · refine rn 2 rfl ?_
       cases hF
       exact rD (rlt (rlt rl0)) rfl
     · refine rn 0 rfl ?_
       refine W.o (lND (s := c34 p) rfl rfl rfl) ?_
       obtain ⟨r_6, g_7, hF⟩ := bind_some hF
       refine rn 2 rfl ?_
       refine df (d33 p s from_ _ g_7) rfl ?_
       refine rn 2 rfl ?_
       cases hF
       exact rD (rlt (rlt rl0)) rfl
/-! ### 21: paddock/nfa.Whole -/
def C21_34 : ACode := .s (.ops [q 41 (.iaddrL 1 37 39), q 42 (.load1 41), q 10 (.mv 42)]) (.s (.ops [q 43 (.mv 10), q 44 (.faddr 1 5), q 45 (.load1 44), q 46 (.binI .eql 43 45)]) (.cond 46 (.s (.ops [q 6 (.mv (.c (.bool true))), q 7 (.mv (ki 0))]) .ret) .skip))
def C21_26 : ACode := .s (.ops [q 40 (.binI .lss 39 38)]) (.s (.cond 40 .skip (.exit 0)) (.s (.block 1 C21_34) (.ops [q 47 (.binI .add 39 (ki 1)), q 39 (.mv 47)])))
def C21_44 : ACode := .s (.ops [q 6 (.mv (.c (.bool false))), q 7 (.mv (ki 0))]) .ret
def C21_1 : ACode := .s (.ops [q 3 (.boxD 3 0), q 5 (.boxD 2 2), q 6 (.mv (.c (.bool false))), q 7 (.mv (ki 0))]) (.s (.s (.ops [q 11 (.loadN 3 3), qc 12 32 [11], q 8 (.mv 12)]) (.s (.ops [q 13 (.mv 8), q 14 (.binI .neq 13 (ki 0))]) (.cond 14 (.s (.ops [q 15 (.mv 8), q 6 (.mv (.c (.bool false))), q 7 (.mv 15)]) .ret) .skip))) (.s (.s (.ops [q 16 (.faddr 0 5), q 17 (.load1 16), q 18 (.binI .lss 17 (ki 0)), q 19 (.mv 18), (q 20 (.faddr 1 5)).n 19, (q 21 (.load1 20)).n 19, (q 22 (.faddr 0 5)).n 19, (q 23 (.load1 22)).n 19, (q 24 (.binI .lss 21 23)).n 19, q 25 (.pick 19 (.c (.bool true)) 24), q 26 (.mv 25), (q 27 (.faddr 1 5)).n 26, (q 28 (.load1 27)).n 26, (q 29 (.mv 1)).n 26, (q 30 (.lenS 29)).n 26, (q 31 (.binI .gtr 28 30)).n 26, q 32 (.pick 26 (.c (.bool true)) 31)]) (.cond 32 (.s (.ops [q 6 (.mv (.c (.bool false))), q 7 (.mv (ki 2))]) .ret) .skip)) (.s (.s (.ops [q 33 (.loadN 3 3), q 34 (.mv 1), q 35 (.faddr 0 5), q 36 (.load1 35), qc 37 33 [33, 34, 36], q 38 (.len 37), q 39 (.mv (ki 0))]) (.block 0 (.loop C21_26))) C21_44)))
def R21 : List RA := [(.tmp 6), (.tmp 7)]
theorem k21 : compF Try.prog (muL [3, 5]) 21 = some ⟨48, C21_1, R21⟩ := by kernel_rfl
noncomputable abbrev X21 (r : Bool × Int) : Cx := cD Try.prog noG 48 R21 (AV.tup [AV.bool r.1, AV.int .i64 r.2]) [3, 5]
inductive St21 where
 | p1 (at_ : T56) (t37_ : Sl Int) (t38_ : Int) (t39_ : Int)
noncomputable def G21 : St21 → Option (Bool × Int)
 | .p1 at_ t37_ t38_ t39_ =>
  (if (decide (t39_ < t38_)) = true then
   (ix (ls t37_) t39_ >>= fun v_10 =>
    (if (v_10 == at_.To) = true then
     (some (true, 0))
    else
     (G21 (.p1 at_ t37_ t38_ (IntKind.wrap .i64 (t39_ + 1))))))
  else
   (some (false, 0)))
 partial_fixpoint
def M21 (x : St21) (r : Bool × Int) : Prop := match x with
 | .p1 at_ t37_ t38_ t39_ => ∀ (tm : Fr) (st : Store), Frm tm [(5, .dptr (c56 at_)), (37, slV 1 (AV.int .i64) t37_), (38, AV.int .i64 t38_), (39, AV.int .i64 t39_)] → SH st [] → W (X21 r) [.lp C21_26, .blk 0, .code C21_44] tm st
theorem w21 : ∀ (x : St21) (r : Bool × Int), G21 x = some r → M21 x r := by
 refine G21.partial_correctness (M21) ?_
 intro g ih x r hF
 cases x with
 | p1 at_ t37_ t38_ t39_ =>
  dsimp only at hF
  intro tm st hf hs
  refine en hf ?_
  refine lp ?_
  refine rn 1 rfl ?_
  refine ci hF rfl (fun c_9 hF => ?_) (fun c_9 hF => ?_)
  · obtain ⟨v_10, g_11, hF⟩ := bind_some hF
    refine rn 0 rfl ?_
    refine W.o (e_iaddrL (rd_V rfl) rfl g_11) ?_
    refine W.o (l1D rfl rfl) ?_
    refine rn 2 rfl ?_
    refine W.o (e_faddrD rfl) ?_
    refine W.o (l1D rfl rfl) ?_
    refine rn 1 rfl ?_
    refine ci hF rfl (fun c_12 hF => ?_) (fun c_12 hF => ?_)
    · refine rn 2 rfl ?_
      cases hF
      exact rD (rlt (rlt rl0)) rfl
    · refine rn 2 rfl ?_
      exact ih (.p1 at_ t37_ t38_ (IntKind.wrap .i64 (t39_ + 1))) _ hF _ _ ⟨rfl, rfl, rfl, rfl, trivial⟩ hs
  · refine rn 2 rfl ?_
    cases hF
    exact rD (rlt (rlt rl0)) rfl
noncomputable def F21 (p : T34) (s : Str) (at_ : T56) : Option (Bool × Int) :=
 (F32 p >>= fun r_1 =>
  (if (r_1 != 0) = true then
   (some (false, r_1))
  else
   (if (decide (at_.From < 0)) = true then
    (some (false, 2))
   else
    (if (decide (at_.To < at_.From)) = true then
     (some (false, 2))
    else
     (if (decide (at_.To > ((s).length : Int))) = true then
      (some (false, 2))
     else
      (F33 p s at_.From >>= fun r_7 =>
       (G21 (.p1 at_ r_7 ((ls r_7).length : Int) 0))))))))
theorem d21 (p : T34) (s : Str) (at_ : T56) (r : Bool × Int) (hF : F21 p s at_ = some r) : DFun Try.prog noG 21 [v34 p, AV.str s, v56 at_] (AV.tup [AV.bool r.1, AV.int .i64 r.2]) := by
 unfold F21 at hF
 refine bD k21 rfl ?_
 have hs : SH [] [] := SH.nil
 generalize ([] : Store) = st at hs ⊢
 refine rn 0 rfl ?_
 refine W.o (e_boxD (cs := c34 p) rfl rfl (c34_one _)) ?_
 refine W.o (e_boxD (cs := c56 at_) rfl rfl rfl) ?_
 refine rn 2 rfl ?_
 refine W.o (lND (s := c34 p) rfl rfl rfl) ?_
 obtain ⟨r_1, g_2, hF⟩ := bind_some hF
 refine df (d32 p _ g_2) rfl ?_
 refine rn 3 rfl ?_
 refine ci hF rfl (fun c_3 hF => ?_) (fun c_3 hF => ?_)
 · refine rn 3 rfl ?_
   cases hF
   exact rD (rlt (rlt rl0)) rfl
 · refine rn 0 rfl ?_
   refine W.o (e_faddrD rfl) ?_
   refine W.o (l1D rfl rfl) ?_
   refine rn 2 rfl ?_
   refine bi hF (fun c_4 hF => ?_) (fun c_4 hF => ?_)
   · refine wfx 19 rfl c_4 ?_
     refine rn 13 rfl ?_
     refine ct rfl rfl ?_
     refine rn 2 rfl ?_
     cases hF
     exact rD (rlt (rlt rl0)) rfl
   · refine wfx 19 rfl c_4 ?_
     refine W.on rfl rfl ?_
     refine W.o (e_faddrD rfl) ?_
     refine W.on rfl rfl ?_
     refine W.o (l1D rfl rfl) ?_
     refine W.on rfl rfl ?_
     refine W.o (e_faddrD rfl) ?_
     refine W.on rfl rfl ?_
     refine W.o (l1D rfl rfl) ?_
     refine rn 3 rfl ?_
     refine bi hF (fun c_5 hF => ?_) (fun c_5 hF => ?_)
     · refine wfx 26 rfl c_5 ?_
       refine rn 6 rfl ?_
       refine ct rfl rfl ?_
       refine rn 2 rfl ?_
       cases hF
       exact rD (rlt (rlt rl0)) rfl
     · refine wfx 26 rfl c_5 ?_
       refine W.on rfl rfl ?_
       refine W.o (e_faddrD rfl) ?_
       refine W.on rfl rfl ?_
       refine W.o (l1D rfl rfl) ?_
       refine rn 4 rfl ?_
       refine ci hF rfl (fun c_6 hF => ?_) (fun c_6 hF => ?_)
       · refine rn 2 rfl ?_
         cases hF
         exact rD (rlt (rlt rl0)) rfl
       · refine rn 0 rfl ?_
         refine W.o (lND (s := c34 p) rfl rfl rfl) ?_
         refine rn 1 rfl ?_
         refine W.o (e_faddrD rfl) ?_
         refine W.o (l1D rfl rfl) ?_
         obtain ⟨r_7, g_8, hF⟩ := bind_some hF
         refine df (d33 p s at_.From _ g_8) rfl ?_
         refine W.o (e_len (rd_V rfl)) ?_
         refine rn 1 rfl ?_
         exact w21 (.p1 at_ r_7 ((ls r_7).length : Int) 0) _ hF _ _ ⟨rfl, rfl, rfl, rfl, trivial⟩ hs
end Go.Proofs.Ytjbafmnocopofaa
end
section
/-
  Plain words for printed functions: binds, guards, wrapped numbers, lists read by index, slices as lists.
-/

namespace Go.Proofs.Ytjbafmnocopofaa
open Go AW
set_option linter.unusedVariables false
set_option linter.unusedSimpArgs false
theorem sm {α β : Type} (a : α) (f : α → Option β) : (some a >>= f) = f a := rfl
theorem ti {α : Type} {b : Bool} {x y : α} (h : b = true) : (if b = true then x else y) = x := if_pos h
theorem fi_ {α : Type} {b : Bool} {x y : α} (h : b = false) : (if b = true then x else y) = y := by rw [h]; rfl
theorem dti {p : Prop} [Decidable p] {α : Type} {x y : α} (h : p) : (if decide p = true then x else y) = x := by simp [h]
theorem dfi {p : Prop} [Decidable p] {α : Type} {x y : α} (h : ¬ p) : (if decide p = true then x else y) = y := by simp [h]
theorem eti {a b : Int} {α : Type} {x y : α} (h : a = b) : (if (a == b) = true then x else y) = x := by simp [h]
theorem efi {a b : Int} {α : Type} {x y : α} (h : a ≠ b) : (if (a == b) = true then x else y) = y := by simp [h]
theorem nti {a b : Int} {α : Type} {x y : α} (h : a ≠ b) : (if (a != b) = true then x else y) = x := by simp [h]
theorem nfi {a b : Int} {α : Type} {x y : α} (h : a = b) : (if (a != b) = true then x else y) = y := by simp [h]
theorem wi (x : Int) (h : -9223372036854775808 ≤ x) (h' : x ≤ 9223372036854775807) : IntKind.wrap .i64 x = x := by
  simp only [IntKind.wrap, IntKind.bits, IntKind.signed, Bool.true_and, decide_eq_true_eq, ge_iff_le]
  have e : (2 : Int) ^ 64 = 18446744073709551616 := by decide
  have e' : (2 : Int) ^ (64 - 1) = 9223372036854775808 := by decide
  first
    | (split <;> omega)
    | (simp only [e, e']; split <;> omega)
theorem wn (n : Nat) (h : n ≤ 9223372036854775807) : IntKind.wrap .i64 (n : Int) = n := wi _ (by omega) (by omega)
theorem wn1 (n : Nat) (h : n < 9223372036854775807) : IntKind.wrap .i64 ((n : Int) + 1) = ((n + 1 : Nat) : Int) := by rw [wi _ (by omega) (by omega)]; omega
theorem wm1 (n : Nat) (h : 1 ≤ n) (h' : n < 9223372036854775807) : IntKind.wrap .i64 ((n : Int) - 1) = ((n - 1 : Nat) : Int) := by rw [wi _ (by omega) (by omega)]; omega
theorem ixs {α : Type} {l : List α} {i : Nat} {c : α} (h : l[i]? = some c) : ix l (i : Int) = some c := by rw [ix_nat]; exact h
theorem ixz {α : Type} {l : List α} {i : Int} {c : α} (h0 : 0 ≤ i) (h : l[i.toNat]? = some c) : ix l i = some c := by simp only [ix, if_pos h0, h]
theorem get_ex {α : Type} (l : List α) {i : Nat} (h : i < l.length) : ∃ c, l[i]? = some c := ⟨l[i], by simp [h]⟩
theorem drop_cons {α : Type} {l : List α} {i : Nat} {c : α} (h : l[i]? = some c) : l.drop i = c :: l.drop (i + 1) := by
  have hi : i < l.length := by rw [List.getElem?_eq_some_iff] at h; exact h.1
  rw [List.drop_eq_getElem_cons hi]
  congr 1
  rw [List.getElem?_eq_some_iff] at h
  exact h.2
theorem take_snoc {α : Type} {l : List α} {i : Nat} {c : α} (h : l[i]? = some c) : l.take (i + 1) = l.take i ++ [c] := by
  rw [List.take_add_one, h]; rfl
theorem ge_lt {α : Type} {l : List α} {i : Nat} {c : α} (h : l[i]? = some c) : i < l.length := by rw [List.getElem?_eq_some_iff] at h; exact h.1
/-- A list as the program keeps it. -/
def so {α : Type} : List α → Sl α
  | [] => none
  | x :: l => some (x :: l)
theorem ls_so {α : Type} (l : List α) : ls (so l) = l := by cases l <;> rfl
theorem sapp_so {α : Type} (l m : List α) : sapp (so l) m = so (l ++ m) := by
  cases l with
  | nil => cases m <;> rfl
  | cons x l => rfl
theorem so_nil {α : Type} : (so [] : Sl α) = none := rfl
theorem so_cons {α : Type} (x : α) (l : List α) : so (x :: l) = some (x :: l) := rfl
theorem i64_lt {n : Int} (h : okI .i64 n) : -9223372036854775808 ≤ n ∧ n ≤ 9223372036854775807 := by
  simp only [okI, Lit.wf, IntKind.min, IntKind.max, IntKind.bits, IntKind.signed, Bool.and_eq_true, decide_eq_true_eq] at h
  simp at h
  omega
end Go.Proofs.Ytjbafmnocopofaa
end
section
/-
  Nfa: trees: their nodes counted, walked, checked.
-/


namespace Go.Proofs.Ytjbafmnocopofaa
open Go AW
set_option linter.unusedVariables false
set_option linter.unusedSimpArgs false
set_option maxHeartbeats 4000000
mutual
def cnt : T27 → Nat
  | ⟨_, _, _, _, _, o⟩ => cnto o + 1
def cnto : Option (List T27) → Nat
  | none => 0
  | some l => cntl l
def cntl : List T27 → Nat
  | [] => 0
  | x :: l => cnt x + cntl l
end
theorem cnt_eq (n : T27) : cnt n = cntl (ls n.Kids) + 1 := by
  obtain ⟨_, _, _, _, _, o⟩ := n
  rw [cnt]
  cases o with
  | none => rfl
  | some l => rfl
theorem cnt_mem : ∀ {l : List T27} {k : T27}, k ∈ l → cnt k ≤ cntl l
  | [], k, h => by simp at h
  | x :: l, k, h => by
    rw [cntl]
    rcases List.mem_cons.1 h with rfl | h
    · omega
    · have := cnt_mem h; omega
theorem cnt_kid {n k : T27} (h : k ∈ ls n.Kids) : cnt k < cnt n := by
  have := cnt_mem h
  rw [cnt_eq n]; omega
theorem cnt_pos (n : T27) : 1 ≤ cnt n := by rw [cnt_eq]; omega
theorem cntl_len : ∀ l : List T27, l.length ≤ cntl l
  | [] => by simp
  | x :: l => by have := cntl_len l; have := cnt_pos x; rw [cntl, List.length_cons]; omega
theorem tree_ind {P : T27 → Prop} (h : ∀ n, (∀ k ∈ ls n.Kids, P k) → P n) : ∀ n, P n := by
  have key : ∀ (m : Nat) (n : T27), cnt n ≤ m → P n := by
    intro m
    induction m with
    | zero => intro n hn; have := cnt_pos n; omega
    | succ m ih => exact fun n hn => h n fun k hk => ih k (by have := cnt_kid hk; omega)
  exact fun n => key _ n (Nat.le_refl _)
theorem cntl_drop {l : List T27} {i : Nat} {k : T27} (h : l[i]? = some k) : cntl (l.drop i) = cnt k + cntl (l.drop (i + 1)) := by rw [drop_cons h, cntl]
theorem cntl_drop_le (l : List T27) (i : Nat) : cntl (l.drop i) ≤ cntl l := by
  induction l generalizing i with
  | nil => simp
  | cons x l ih =>
    cases i with
    | zero => simp
    | succ i => have := ih i; rw [List.drop_succ_cons, cntl]; omega

/-! ### Each node in order, counted -/
abbrev Cz := Int × Int × Nat
def cres (t : Int) (c m : Nat) : Bool × Cz := if c + m ≤ 8192 then (true, (t, ((c + m : Nat) : Int), 0)) else (false, (3, 8193, 1))
theorem b12 (a b x : T27) (t : Int) (c : Nat) (hc : c ≤ 8192) : B12_1 a b x (t, (c : Int), 0) = some (cres t c 1) := by
  unfold B12_1 cres
  simp only
  rw [if_pos trivial, wn1 c (by omega)]
  by_cases h : c + 1 ≤ 8192
  · rw [dfi (by omega), if_pos h]
  · have : c = 8192 := by omega
    subst this
    rw [dti (by omega), if_neg (by omega)]; rfl
theorem g41_1 (a b : T27) (n : T27) (hn : ∀ k ∈ ls n.Kids, ∀ (t : Int) (c : Nat), c ≤ 8192 → G41 (B12_1 a b) (.e k (t, (c : Int), 0)) = some (cres t c (cnt k))) (t : Int) :
    ∀ (m i c : Nat), m + i = (ls n.Kids).length → i ≤ c → c ≤ 8192 → G41 (B12_1 a b) (.p1 n ((ls n.Kids).length : Int) (i : Int) (t, (c : Int), 0)) = some (cres t c (cntl ((ls n.Kids).drop i)))
  | 0, i, c, h, hi, hc => by
    rw [G41.eq_2, dfi (by omega), List.drop_of_length_le (by omega), cres, cntl, if_pos (by omega), Nat.add_zero]
  | m + 1, i, c, h, hi, hc => by
    obtain ⟨k, hk⟩ := get_ex (ls n.Kids) (i := i) (by omega)
    have hp := cnt_pos k
    rw [G41.eq_2, dti (by omega), ixs hk, sm, hn k (List.mem_of_getElem? hk) t c hc, sm, cntl_drop hk]
    unfold cres
    by_cases h1 : c + cnt k ≤ 8192
    · rw [if_pos h1]
      simp only [Bool.not_true, Bool.false_eq_true, if_false]
      rw [wn1 i (by omega), g41_1 a b n hn t m (i + 1) (c + cnt k) (by omega) (by omega) h1]
      unfold cres
      rw [Nat.add_assoc]
    · rw [if_neg h1, if_neg (show ¬ c + (cnt k + cntl ((ls n.Kids).drop (i + 1))) ≤ 8192 by omega)]; rfl
theorem g41 (a b : T27) : ∀ (n : T27) (t : Int) (c : Nat), c ≤ 8192 → G41 (B12_1 a b) (.e n (t, (c : Int), 0)) = some (cres t c (cnt n)) := by
  intro n
  induction n using tree_ind with
  | h n ih =>
    intro t c hc
    rw [G41.eq_1, b12 a b n t c hc, sm, cnt_eq]
    unfold cres
    by_cases h1 : c + 1 ≤ 8192
    · rw [if_pos h1]
      simp only [Bool.not_true, Bool.false_eq_true, if_false]
      have := g41_1 a b n ih t (ls n.Kids).length 0 (c + 1) (by omega) (by omega) h1
      have this' : G41 (B12_1 a b) (.p1 n ((ls n.Kids).length : Int) 0 (t, ((c + 1 : Nat) : Int), 0)) = _ := this
      rw [this', List.drop_zero]
      unfold cres
      rw [Nat.add_assoc, Nat.add_comm 1]
    · rw [if_neg h1, if_neg (show ¬ c + (cntl (ls n.Kids) + 1) ≤ 8192 by omega)]; rfl
theorem f40 (a b n : T27) (t : Int) : F40 (B12_1 a b) n (t, 0, 0) = some (if cnt n ≤ 8192 then (t, (cnt n : Int), 0) else (3, 8193, 1)) := by
  unfold F40 F41
  have := g41 a b n t 0 (by omega)
  have this' : G41 (B12_1 a b) (.e n (t, 0, 0)) = _ := this
  rw [this', sm]
  unfold cres
  rw [Nat.zero_add]
  split <;> rfl

/-! ### What each kind must be -/
def pl (n : T27) : Bool :=
  (if n.Kind = 3 ∨ n.Kind = 4 then decide (2 ≤ (ls n.Kids).length)
   else if n.Kind = 5 then decide (0 ≤ n.Min ∧ n.Min ≤ 255 ∧ (n.Max = -1 ∨ n.Min ≤ n.Max ∧ n.Max ≤ 255)) && decide ((ls n.Kids).length = 1)
   else if n.Kind = 6 then decide ((ls n.Kids).length = 1)
   else if n.Kind = 1 ∨ n.Kind = 2 ∨ n.Kind = 7 ∨ n.Kind = 8 ∨ n.Kind = 9 then decide ((ls n.Kids).length = 0) else false) &&
  (decide (n.Kind = 2) || decide (n.Set = Arr.rep 4 0)) && (decide (n.Kind = 5) || decide (n.Min = 0 ∧ n.Max = 0)) && (decide (n.Kind = 6) || decide (n.Kind = 7) || decide (n.Group = 0))
theorem g31 (n : T27) (k w : Int) : G31 (.p1 n k w) = some (decide (k = w) && (decide (n.Kind = 2) || decide (n.Set = Arr.rep 4 0)) && (decide (n.Kind = 5) || decide (n.Min = 0 ∧ n.Max = 0)) && (decide (n.Kind = 6) || decide (n.Kind = 7) || decide (n.Group = 0))) := by
  have e : ∀ a b : Int, (a == b) = decide (a = b) := fun a b => by rw [Bool.eq_iff_iff]; simp
  rw [G31.eq_1]
  simp only [e]
  by_cases h1 : k = w <;> by_cases h2 : n.Kind = 2 <;> by_cases h3 : n.Set = Arr.rep 4 0 <;> by_cases h4 : n.Kind = 5 <;> by_cases h5 : n.Min = 0 <;> by_cases h6 : n.Max = 0 <;> by_cases h7 : n.Kind = 6 <;> by_cases h8 : n.Kind = 7 <;> simp [h1, h2, h3, h4, h5, h6, h7, h8] <;> omega
theorem nkinds (k : Int) : k = 1 ∨ k = 2 ∨ k = 3 ∨ k = 4 ∨ k = 5 ∨ k = 6 ∨ k = 7 ∨ k = 8 ∨ k = 9 ∨ (k ≠ 1 ∧ k ≠ 2 ∧ k ≠ 3 ∧ k ≠ 4 ∧ k ≠ 5 ∧ k ≠ 6 ∧ k ≠ 7 ∧ k ≠ 8 ∧ k ≠ 9) := by omega
theorem f31 (n : T27) : F31 n = some (pl n) := by
  unfold F31 pl
  simp only [g31]
  have e2 : decide (((ls n.Kids).length : Int) = if 2 > ((ls n.Kids).length : Int) then 2 else ((ls n.Kids).length : Int)) = decide (2 ≤ (ls n.Kids).length) := by
    rw [Bool.eq_iff_iff, decide_eq_true_eq, decide_eq_true_eq]; split <;> omega
  have e1 : decide (((ls n.Kids).length : Int) = 1) = decide ((ls n.Kids).length = 1) := by
    rw [Bool.eq_iff_iff, decide_eq_true_eq, decide_eq_true_eq]; omega
  have e0 : decide (((ls n.Kids).length : Int) = 0) = decide ((ls n.Kids).length = 0) := by
    rw [Bool.eq_iff_iff, decide_eq_true_eq, decide_eq_true_eq]; omega
  simp only [e2, e1, e0]
  rcases nkinds n.Kind with h | h | h | h | h | h | h | h | h | h
  case inr.inr.inr.inr.inl =>
    simp (config := {decide := true}) only [h, if_true, if_false]
    by_cases h1 : n.Min < 0
    · rw [dti h1, decide_eq_false (p := 0 ≤ n.Min ∧ _) (by omega)]; simp
    rw [dfi h1]
    by_cases h2 : n.Min > 255
    · rw [dti h2, decide_eq_false (p := 0 ≤ n.Min ∧ _) (by omega)]; simp
    rw [dfi h2]
    by_cases h3 : n.Max = -1
    · rw [nfi h3, decide_eq_true (p := 0 ≤ n.Min ∧ _) (by omega)]; simp
    rw [nti h3]
    by_cases h4 : n.Max < n.Min
    · rw [dti h4, decide_eq_false (p := 0 ≤ n.Min ∧ _) (by omega)]; simp
    rw [dfi h4]
    by_cases h5 : n.Max > 255
    · rw [dti h5, decide_eq_false (p := 0 ≤ n.Min ∧ _) (by omega)]; simp
    rw [dfi h5, decide_eq_true (p := 0 ≤ n.Min ∧ _) (by omega)]; simp
  case inr.inr.inr.inr.inr.inr.inr.inr.inr =>
    obtain ⟨a1, a2, a3, a4, a5, a6, a7, a8, a9⟩ := h
    have e1 : ∀ k : Int, n.Kind ≠ k → (n.Kind == k) = false := fun k h => by simpa using h
    simp (config := {decide := true}) only [e1 _ a1, e1 _ a2, e1 _ a3, e1 _ a4, e1 _ a5, e1 _ a6, e1 _ a7, e1 _ a8, e1 _ a9, a1, a2, a3, a4, a5, a6, a7, a8, a9, if_false, or_self, Bool.false_and, Bool.false_eq_true]
  all_goals simp (config := {decide := true}) only [h, if_true, if_false, true_or, or_true, or_false, false_or]
end Go.Proofs.Ytjbafmnocopofaa
end
section
/-
  Nfa: which trees are right: Check.
-/

namespace Go.Proofs.Ytjbafmnocopofaa
open Go AW
set_option linter.unusedVariables false
set_option linter.unusedSimpArgs false
set_option maxHeartbeats 4000000
mutual
def gcnt : T27 → Nat
  | ⟨k, _, _, _, _, o⟩ => (if k = 6 then 1 else 0) + gcnto o
def gcnto : Option (List T27) → Nat
  | none => 0
  | some l => gcntl l
def gcntl : List T27 → Nat
  | [] => 0
  | x :: l => gcnt x + gcntl l
end
theorem gcnt_eq (n : T27) : gcnt n = (if n.Kind = 6 then 1 else 0) + gcntl (ls n.Kids) := by
  obtain ⟨_, _, _, _, _, o⟩ := n
  rw [gcnt]
  cases o with
  | none => rfl
  | some l => rfl
/-- A tree is right, behind so many groups. -/
def goodp (n : T27) (b : Nat) : Prop := pl n = true ∧ (n.Kind = 6 → n.Group = (b : Int) + 1 ∧ b + 1 ≤ 99) ∧ (n.Kind = 7 → 1 ≤ n.Group ∧ n.Group ≤ 9 ∧ n.Group ≤ (b : Int))
mutual
def good : T27 → Nat → Prop
  | ⟨k, st, mn, mx, g, o⟩, b => goodp ⟨k, st, mn, mx, g, o⟩ b ∧ goodo o (b + if k = 6 then 1 else 0)
def goodo : Option (List T27) → Nat → Prop
  | none, _ => True
  | some l, b => goodl l b
def goodl : List T27 → Nat → Prop
  | [], _ => True
  | x :: l, b => good x b ∧ goodl l (b + gcnt x)
end
theorem good_eq (n : T27) (b : Nat) : good n b ↔ goodp n b ∧ goodl (ls n.Kids) (b + if n.Kind = 6 then 1 else 0) := by
  obtain ⟨k, st, mn, mx, g, o⟩ := n
  rw [good]
  cases o with
  | none => simp [goodo, ls, goodl]
  | some l => rw [goodo]; rfl
theorem ls_sapp1 {α : Type} (o : Sl α) (x : α) : ls (sapp o (ls (some [x]))) = ls o ++ [x] := by rw [ls_sapp]; rfl
theorem p4_no (n : T27) (hl : (ls n.Kids).length ≤ 100000) (b : Int) (E : Sl Bool) : ∀ (m i : Nat), m + i = (ls n.Kids).length → G30 (.p4 n ((ls n.Kids).length : Int) (i : Int) false b E) = some (false, b, E)
  | 0, i, h => by rw [G30.eq_5, dfi (by omega), if_neg (by simp)]
  | m + 1, i, h => by rw [G30.eq_5, dti (by omega), if_neg (by simp), wn1 i (by omega), p4_no n hl b E m (i + 1) (by omega)]
/-- What Check's walk says of a tree behind so many groups. -/
def Chk (b m : Nat) (g : Prop) (gc : Nat) (r : Option (Bool × Int × Sl Bool)) : Prop :=
  ∃ (ok : Bool) (b' : Nat) (E' : Sl Bool), r = some (ok, (b' : Int), E') ∧ (ls E').length = b' ∧ b ≤ b' ∧ b' ≤ b + m ∧ (ok = true → g) ∧ (ok = true → b' = b + gc)
theorem g30_4 (n : T27) (hl : (ls n.Kids).length ≤ 100000) (ih : ∀ k ∈ ls n.Kids, ∀ (b : Nat) (E : Sl Bool), (ls E).length = b → b + cnt k ≤ 100000 → Chk b (cnt k) (good k b) (gcnt k) (G30 (.e k true (b : Int) E))) :
    ∀ (m i b : Nat) (E : Sl Bool), m + i = (ls n.Kids).length → (ls E).length = b → b + cntl ((ls n.Kids).drop i) ≤ 100000 → (n.Kind = 6 → 1 ≤ n.Group ∧ n.Group ≤ (b : Int)) →
    Chk b (cntl ((ls n.Kids).drop i)) (goodl ((ls n.Kids).drop i) b) (gcntl ((ls n.Kids).drop i)) (G30 (.p4 n ((ls n.Kids).length : Int) (i : Int) true (b : Int) E))
  | 0, i, b, E, h, hE, hb, hg => by
    rw [G30.eq_5, dfi (by omega), if_pos rfl, List.drop_of_length_le (by omega)]
    by_cases h6 : n.Kind = 6
    · have := hg h6
      obtain ⟨g, hgn⟩ : ∃ g : Nat, n.Group - 1 = g := ⟨(n.Group - 1).toNat, by omega⟩
      obtain ⟨v, hv⟩ := get_ex (ls E) (i := g) (by omega)
      rw [eti h6, wi _ (by omega) (by omega), hgn, ixs hv, sm]
      exact ⟨true, b, _, rfl, by rw [ls_vset, List.length_set, hE], by omega, by omega, fun _ => by rw [goodl]; trivial, fun _ => rfl⟩
    · rw [efi h6]
      exact ⟨true, b, E, rfl, hE, by omega, by omega, fun _ => by rw [goodl]; trivial, fun _ => rfl⟩
  | m + 1, i, b, E, h, hE, hb, hg => by
    obtain ⟨k, hk⟩ := get_ex (ls n.Kids) (i := i) (by omega)
    have hd := cntl_drop hk
    have hgd : gcntl ((ls n.Kids).drop i) = gcnt k + gcntl ((ls n.Kids).drop (i + 1)) := by rw [drop_cons hk, gcntl]
    have hgo : goodl ((ls n.Kids).drop i) b ↔ good k b ∧ goodl ((ls n.Kids).drop (i + 1)) (b + gcnt k) := by rw [drop_cons hk, goodl]
    rw [G30.eq_5, dti (by omega), if_pos rfl, ixs hk, sm, hd, hgd, hgo]
    obtain ⟨ok, b', E', e, h1, h2, h3, h4, h5⟩ := ih k (List.mem_of_getElem? hk) b E hE (by omega)
    rw [e, sm, wn1 i (by omega)]
    cases ok with
    | false =>
      rw [p4_no n hl _ _ m (i + 1) (by omega)]
      exact ⟨false, b', E', rfl, h1, h2, by omega, fun h => (by cases h), fun h => by cases h⟩
    | true =>
      have h4' := h4 rfl
      have h5' := h5 rfl
      subst h5'
      obtain ⟨ok2, b2, E2, e2, j1, j2, j3, j4, j5⟩ := g30_4 n hl ih m (i + 1) (b + gcnt k) E' (by omega) h1 (by omega) (fun h => by have := hg h; omega)
      refine ⟨ok2, b2, E2, e2, j1, by omega, by omega, fun h => ⟨h4', j4 h⟩, fun h => by have := j5 h; omega⟩
theorem g30 : ∀ (n : T27) (b : Nat) (E : Sl Bool), (ls E).length = b → b + cnt n ≤ 100000 → Chk b (cnt n) (good n b) (gcnt n) (G30 (.e n true (b : Int) E)) := by
  intro n
  induction n using tree_ind with
  | h n ih =>
    intro b E hE hb
    have hc := cnt_eq n
    have hkl := cntl_len (ls n.Kids)
    rw [G30.eq_1, if_pos rfl, f31, sm, G30.eq_2, good_eq, gcnt_eq]
    unfold goodp
    cases hp : pl n with
    | false =>
      rw [if_pos (show (!false) = true from rfl)]
      exact ⟨false, b, E, rfl, hE, by omega, by omega, fun h => (by cases h), fun h => by cases h⟩
    | true =>
      have h4 := fun (b : Nat) (E : Sl Bool) (h1 : (ls E).length = b) (h2 : b + cntl ((ls n.Kids).drop 0) ≤ 100000) (h3 : n.Kind = 6 → 1 ≤ n.Group ∧ n.Group ≤ (b : Int)) => g30_4 n (by omega) ih (ls n.Kids).length 0 b E (by omega) h1 h2 h3
      rw [List.drop_zero] at h4
      have h3f : ∀ (b' : Int) (E : Sl Bool), G30 (.p3 n false b' E) = some (false, b', E) := fun b' E => by
        rw [G30.eq_4]
        exact p4_no n (by omega) b' E (ls n.Kids).length 0 (by omega)
      rw [if_neg (show ¬ (!true) = true by simp)]
      by_cases h6 : n.Kind = 6
      · rw [eti h6, wn1 b (by omega), if_pos h6]
        have hgrow : ∀ ok : Bool, G30 (.p2 n ok ((b + 1 : Nat) : Int) E) = G30 (.p3 n ok ((b + 1 : Nat) : Int) (sapp E (ls (some [false])))) := fun ok => by
          rw [G30.eq_3, if_pos (by simp [ls] at hE ⊢; omega)]
        have hE1 : (ls (sapp E (ls (some [false])))).length = b + 1 := by rw [ls_sapp1]; simp [hE]
        by_cases hg : n.Group = ((b + 1 : Nat) : Int)
        · rw [eti hg, hgrow]
          by_cases h99 : b + 1 ≤ 99
          · rw [decide_eq_true (by omega), G30.eq_4]
            obtain ⟨ok, b', E', e, j1, j2, j3, j4, j5⟩ := h4 (b + 1) _ hE1 (by omega) (fun _ => by omega)
            exact ⟨ok, b', E', e, j1, by omega, by omega, fun h => ⟨⟨rfl, fun _ => ⟨by omega, h99⟩, fun h7 => by omega⟩, j4 h⟩, fun h => by have := j5 h; omega⟩
          · rw [decide_eq_false (by omega), h3f]
            exact ⟨false, b + 1, _, rfl, hE1, by omega, by omega, fun h => (by cases h), fun h => by cases h⟩
        · rw [efi hg, hgrow, h3f]
          exact ⟨false, b + 1, _, rfl, hE1, by omega, by omega, fun h => (by cases h), fun h => by cases h⟩
      · rw [efi h6, if_neg h6, Nat.zero_add, Nat.add_zero]
        have no : ∀ P gc, Chk b (cnt n) P gc (G30 (.p3 n false (b : Int) E)) := fun P gc => by
          rw [h3f]; exact ⟨false, b, E, rfl, hE, by omega, by omega, fun h => (by cases h), fun h => by cases h⟩
        have yes : (n.Kind = 7 → 1 ≤ n.Group ∧ n.Group ≤ 9 ∧ n.Group ≤ (b : Int)) → Chk b (cnt n) ((true = true ∧ (n.Kind = 6 → n.Group = (b : Int) + 1 ∧ b + 1 ≤ 99) ∧ (n.Kind = 7 → 1 ≤ n.Group ∧ n.Group ≤ 9 ∧ n.Group ≤ (b : Int))) ∧ goodl (ls n.Kids) b) (gcntl (ls n.Kids)) (G30 (.p3 n true (b : Int) E)) := by
          intro hok
          rw [G30.eq_4]
          obtain ⟨ok, b', E', e, j1, j2, j3, j4, j5⟩ := h4 b E hE (by omega) (fun h => absurd h h6)
          exact ⟨ok, b', E', e, j1, by omega, by omega, fun h => ⟨⟨rfl, fun h => absurd h h6, hok⟩, j4 h⟩, fun h => by have := j5 h; omega⟩
        by_cases h7 : n.Kind = 7
        · rw [eti h7]
          by_cases k1 : n.Group ≥ 1
          · rw [dti k1]
            by_cases k2 : n.Group ≤ 9
            · rw [dti k2]
              by_cases k3 : n.Group ≤ (b : Int)
              · rw [dti k3]
                obtain ⟨g, hgn⟩ : ∃ g : Nat, n.Group - 1 = g := ⟨(n.Group - 1).toNat, by omega⟩
                obtain ⟨v, hv⟩ := get_ex (ls E) (i := g) (by omega)
                rw [wi _ (by omega) (by omega), hgn, ixs hv, sm]
                cases v with
                | false => exact no _ _
                | true => exact yes fun _ => ⟨k1, k2, k3⟩
              · rw [dfi k3]; exact no _ _
            · rw [dfi k2]; exact no _ _
          · rw [dfi k1]; exact no _ _
        · rw [efi h7]; exact yes fun h => absurd h h7
/-- Check: total; where it is content, the tree is right. -/
theorem f12 (n : T27) : ∃ r : Int, F12 n = some r ∧ (r = 0 → good n 0 ∧ cnt n ≤ 8192) := by
  unfold F12 F29
  rw [sm, G12.eq_1, f40, sm]
  by_cases h : cnt n ≤ 8192
  · rw [if_pos h, if_pos rfl]
    obtain ⟨ok, b', E', e, h1, h2, h3, h4, h5⟩ := g30 n 0 none (by simp [ls]) (by omega)
    have e' : F30 n true 0 none = some (ok, (b' : Int), E') := e
    rw [e', sm]
    cases ok with
    | false => exact ⟨90, rfl, fun h => by cases h⟩
    | true => exact ⟨0, rfl, fun _ => ⟨h4 rfl, h⟩⟩
  · rw [if_neg h]
    exact ⟨3, rfl, fun h => by cases h⟩
end Go.Proofs.Ytjbafmnocopofaa
end
section
/-
  Nfa: the groups of a tree, and how many instructions it has.
-/

namespace Go.Proofs.Ytjbafmnocopofaa
open Go AW
set_option linter.unusedVariables false
set_option linter.unusedSimpArgs false
set_option maxHeartbeats 4000000
theorem nat_of' {z : Int} (h : 0 ≤ z) : ∃ n : Nat, z = n := ⟨z.toNat, by omega⟩
/-! ### Groups counted -/
theorem b28 (a : Int) (t x : T27) (c : Nat) (hc : c ≤ 100000) : B28_1 a t x ((c : Int), 0) = some (true, (((c + if x.Kind = 6 then 1 else 0 : Nat) : Int), 0)) := by
  unfold B28_1
  simp only
  rw [if_pos trivial]
  by_cases h : x.Kind = 6
  · rw [eti h, wn1 c (by omega), if_pos h]
  · rw [efi h, if_neg h]; rfl
theorem gcnt_le : ∀ n : T27, gcnt n ≤ cnt n := by
  intro n
  induction n using tree_ind with
  | h n ih =>
    rw [gcnt_eq, cnt_eq]
    have : ∀ l : List T27, (∀ k ∈ l, gcnt k ≤ cnt k) → gcntl l ≤ cntl l := by
      intro l
      induction l with
      | nil => intro _; rw [gcntl, cntl]; omega
      | cons x l ihl => intro h; have := h x (by simp); have := ihl fun k hk => h k (by simp [hk]); rw [gcntl, cntl]; omega
    have := this _ ih
    split <;> omega
theorem gcntl_le (l : List T27) : gcntl l ≤ cntl l := by
  induction l with
  | nil => rw [gcntl, cntl]; omega
  | cons x l ih => have := gcnt_le x; rw [gcntl, cntl]; omega
theorem g41b_1 (a : Int) (t : T27) (n : T27) (hl : (ls n.Kids).length ≤ 100000) (hn : ∀ k ∈ ls n.Kids, ∀ (c : Nat), c + cnt k ≤ 100000 → G41 (B28_1 a t) (.e k ((c : Int), 0)) = some (true, (((c + gcnt k : Nat) : Int), 0))) :
    ∀ (m i c : Nat), m + i = (ls n.Kids).length → c + cntl ((ls n.Kids).drop i) ≤ 100000 → G41 (B28_1 a t) (.p1 n ((ls n.Kids).length : Int) (i : Int) ((c : Int), 0)) = some (true, (((c + gcntl ((ls n.Kids).drop i) : Nat) : Int), 0))
  | 0, i, c, h, hc => by
    rw [G41.eq_2, dfi (by omega), List.drop_of_length_le (by omega), gcntl, Nat.add_zero]
  | m + 1, i, c, h, hc => by
    obtain ⟨k, hk⟩ := get_ex (ls n.Kids) (i := i) (by omega)
    have hd := cntl_drop hk
    have hg := gcnt_le k
    rw [G41.eq_2, dti (by omega), ixs hk, sm, hn k (List.mem_of_getElem? hk) c (by omega), sm]
    simp only [Bool.not_true, Bool.false_eq_true, if_false]
    rw [wn1 i (by omega), g41b_1 a t n hl hn m (i + 1) (c + gcnt k) (by omega) (by omega), drop_cons hk, gcntl, Nat.add_assoc]
theorem g41b (a : Int) (t : T27) : ∀ (n : T27) (c : Nat), c + cnt n ≤ 100000 → G41 (B28_1 a t) (.e n ((c : Int), 0)) = some (true, (((c + gcnt n : Nat) : Int), 0)) := by
  intro n
  induction n using tree_ind with
  | h n ih =>
    intro c hc
    have he := cnt_eq n
    have hl := cntl_len (ls n.Kids)
    rw [G41.eq_1, b28 a t n c (by omega), sm]
    simp only [Bool.not_true, Bool.false_eq_true, if_false]
    have := g41b_1 a t n (by omega) ih (ls n.Kids).length 0 (c + if n.Kind = 6 then 1 else 0) (by omega) (by rw [List.drop_zero]; split <;> omega)
    have this' : G41 (B28_1 a t) (.p1 n ((ls n.Kids).length : Int) 0 (((c + if n.Kind = 6 then 1 else 0 : Nat) : Int), 0)) = _ := this
    rw [this', List.drop_zero, gcnt_eq, Nat.add_assoc]
theorem f28 (n : T27) (h : cnt n ≤ 8192) : F28 n = some (gcnt n : Int) := by
  unfold F28 F29
  rw [sm, G28.eq_1]
  unfold F40 F41
  have := g41b 0 n n 0 (by omega)
  have this' : G41 (B28_1 0 n) (.e n (0, 0)) = _ := this
  rw [this', sm, sm, if_pos rfl, Nat.zero_add]

/-! ### The least and the greatest group -/
def glo (b m : Nat) : Int := if m = 0 then 0 else (b : Int) + 1
def ghi (b m : Nat) : Int := if m = 0 then 0 else (b : Int) + m
theorem g38_2 (n : T27) (ih : ∀ k ∈ ls n.Kids, ∀ b : Nat, good k b → G38 (.e k) = some (glo b (gcnt k), ghi b (gcnt k))) (b : Nat) (hl : (ls n.Kids).length ≤ 100000) :
    ∀ (q i m : Nat), q + i = (ls n.Kids).length → goodl ((ls n.Kids).drop i) (b + m) → G38 (.p2 (glo b m) (ghi b m) n.Kids ((ls n.Kids).length : Int) (i : Int)) = some (glo b (m + gcntl ((ls n.Kids).drop i)), ghi b (m + gcntl ((ls n.Kids).drop i)))
  | 0, i, m, h, hg => by
    rw [G38.eq_3, dfi (by omega), List.drop_of_length_le (by omega), gcntl]; rfl
  | q + 1, i, m, h, hg => by
    obtain ⟨k, hk⟩ := get_ex (ls n.Kids) (i := i) (by omega)
    rw [drop_cons hk, goodl] at hg
    have step := g38_2 n ih b hl q (i + 1) (m + gcnt k) (by omega) (by rw [← Nat.add_assoc]; exact hg.2)
    have fin : G38 (.p2 (glo b (m + gcnt k)) (ghi b (m + gcnt k)) n.Kids ((ls n.Kids).length : Int) (IntKind.wrap .i64 ((i : Int) + 1))) = some (glo b (m + gcntl ((ls n.Kids).drop i)), ghi b (m + gcntl ((ls n.Kids).drop i))) := by
      rw [wn1 i (by omega), step, drop_cons hk, gcntl, Nat.add_assoc]
    rw [G38.eq_3, dti (by omega), ixs hk, sm, ih k (List.mem_of_getElem? hk) _ hg.1, sm]
    simp only [G38.eq_4]
    generalize gcnt k = g at *
    by_cases h0 : g = 0
    · subst h0
      rw [dfi (by simp [glo])]
      have : ghi (b + m) 0 = 0 := rfl
      rw [this, if_neg (by unfold ghi; split <;> omega)]
      exact fin
    · rw [dti (by simp only [glo, if_neg h0]; omega)]
      by_cases hm : m = 0
      · subst hm
        rw [eti (by rfl)]
        have e1 : glo (b + 0) g = glo b (0 + g) := by simp [glo]
        have e2 : (if ghi (b + 0) g > ghi b 0 then ghi (b + 0) g else ghi b 0) = ghi b (0 + g) := by
          have : ghi b 0 = 0 := rfl
          rw [this, Nat.zero_add, Nat.add_zero]; unfold ghi; rw [if_neg h0, if_pos (by omega)]
        rw [e1, e2]
        exact fin
      · rw [efi (by simp only [glo, if_neg hm]; omega), dfi (by simp only [glo, if_neg hm, if_neg h0]; omega)]
        have e1 : glo b m = glo b (m + g) := by simp [glo, hm]
        have e2 : (if ghi (b + m) g > ghi b m then ghi (b + m) g else ghi b m) = ghi b (m + g) := by
          unfold ghi; rw [if_neg h0, if_neg hm, if_neg (by omega : ¬ m + g = 0), if_pos (by omega)]; omega
        rw [e2, e1]
        exact fin
theorem g38 : ∀ (n : T27) (b : Nat), cnt n ≤ 100000 → good n b → G38 (.e n) = some (glo b (gcnt n), ghi b (gcnt n)) := by
  intro n
  induction n using tree_ind with
  | h n ih =>
    intro b hc hg
    have he := cnt_eq n
    have hl := cntl_len (ls n.Kids)
    rw [good_eq] at hg
    have ih' : ∀ k ∈ ls n.Kids, ∀ b : Nat, good k b → G38 (.e k) = some (glo b (gcnt k), ghi b (gcnt k)) := fun k hk b h => ih k hk b (by have := cnt_kid hk; omega) h
    rw [G38.eq_1, gcnt_eq]
    by_cases h6 : n.Kind = 6
    · obtain ⟨e, _⟩ := hg.1.2.1 h6
      rw [eti h6, if_pos h6, G38.eq_2]
      have := g38_2 n ih' b (by omega) (ls n.Kids).length 0 1 (by omega) (by rw [List.drop_zero]; simpa [h6] using hg.2)
      have e1 : glo b 1 = n.Group := by rw [e]; rfl
      have e2 : ghi b 1 = n.Group := by rw [e]; rfl
      rw [e1, e2, List.drop_zero] at this
      exact this
    · rw [efi h6, if_neg h6, G38.eq_2]
      have := g38_2 n ih' b (by omega) (ls n.Kids).length 0 0 (by omega) (by rw [List.drop_zero]; simpa [h6] using hg.2)
      rw [List.drop_zero] at this
      exact this

/-! ### Sizes -/
mutual
def sz : T27 → Nat
  | ⟨k, _, mn, mx, _, o⟩ =>
    if k = 1 then 0 else if k = 3 then szo o else if k = 4 then szo o + 2 * ((ls o).length - 1) else if k = 6 then szo o + 2
    else if k = 5 then mn.toNat * (szo o + if gcnto o = 0 then 0 else 1) + (if mx = -1 then (szo o + if gcnto o = 0 then 0 else 1) + 4 else (mx - mn).toNat * ((szo o + if gcnto o = 0 then 0 else 1) + 3)) else 1
def szo : Option (List T27) → Nat
  | none => 0
  | some l => szl l
def szl : List T27 → Nat
  | [] => 0
  | x :: l => sz x + szl l
end
/-- The size of a round. -/
def rsz (k : T27) : Nat := sz k + if gcnt k = 0 then 0 else 1
theorem sz_eq (n : T27) : sz n = if n.Kind = 1 then 0 else if n.Kind = 3 then szl (ls n.Kids) else if n.Kind = 4 then szl (ls n.Kids) + 2 * ((ls n.Kids).length - 1) else if n.Kind = 6 then szl (ls n.Kids) + 2
    else if n.Kind = 5 then n.Min.toNat * (szl (ls n.Kids) + if gcntl (ls n.Kids) = 0 then 0 else 1) + (if n.Max = -1 then (szl (ls n.Kids) + if gcntl (ls n.Kids) = 0 then 0 else 1) + 4 else (n.Max - n.Min).toNat * ((szl (ls n.Kids) + if gcntl (ls n.Kids) = 0 then 0 else 1) + 3)) else 1 := by
  obtain ⟨_, _, _, _, _, o⟩ := n
  rw [sz]
  cases o with
  | none => rfl
  | some l => rfl
def cap (x : Nat) : Nat := min x 16385
theorem cap_le (x : Nat) : cap x ≤ 16385 := by unfold cap; omega
theorem cap_add (x y : Nat) : cap (cap x + cap y) = cap (x + y) := by unfold cap; omega
theorem cap_add1 (x y : Nat) : cap (cap x + y) = cap (x + y) := by unfold cap; omega
theorem cap_add2 (x y : Nat) : cap (x + cap y) = cap (x + y) := by unfold cap; omega
theorem cap_mul (m r : Nat) : cap (m * cap r) = cap (m * r) := by
  by_cases h : r ≤ 16385
  · have : cap r = r := by unfold cap; omega
    rw [this]
  · have h1 : cap r = 16385 := by unfold cap; omega
    rw [h1]
    cases m with
    | zero => simp
    | succ m =>
      have h2 : 16385 ≤ (m + 1) * 16385 := Nat.le_mul_of_pos_left _ (by omega)
      have h3 : r ≤ (m + 1) * r := Nat.le_mul_of_pos_left _ (by omega)
      unfold cap
      omega
theorem cap_mul3 (m r : Nat) : cap (m * (cap r + 3)) = cap (m * (r + 3)) := by
  have h1 := cap_mul m (r + 3)
  have h2 := cap_mul m (cap r + 3)
  rw [← h2, cap_add1, h1]
theorem f37 (x q : Nat) (hx : x ≤ 100000000) (hq : q ≤ 100000000) : F37 (x : Int) (q : Int) = some (cap (q + x) : Int) := by
  unfold F37 cap
  rw [wi _ (by omega) (by omega)]
  split <;> exact congrArg some (by omega)
theorem if37 (x : Nat) (h : x ≤ 100000000) : (if 16385 < IntKind.wrap .i64 ((x : Int) + 1) then 16385 else IntKind.wrap .i64 ((x : Int) + 1)) = ((cap (x + 1) : Nat) : Int) := by
  rw [wn1 x (by omega)]
  unfold cap
  split <;> omega
theorem f37' {x q : Int} (m k : Nat) (hx : x = m) (hq : q = k) (h1 : m ≤ 100000000) (h2 : k ≤ 100000000) : F37 x q = some (cap (k + m) : Int) := by subst hx; subst hq; exact f37 m k h1 h2
theorem goodl_mem : ∀ {l : List T27} {b : Nat} {k : T27}, goodl l b → k ∈ l → ∃ b', good k b'
  | [], b, k, _, h => by simp at h
  | x :: l, b, k, hg, h => by
    rw [goodl] at hg
    rcases List.mem_cons.1 h with rfl | h
    · exact ⟨_, hg.1⟩
    · exact goodl_mem hg.2 h
theorem g25_3 (n : T27) (hl : (ls n.Kids).length ≤ 100000) (ih : ∀ k ∈ ls n.Kids, G25 (.e k) = some (cap (sz k) : Int)) :
    ∀ (m i a : Nat), m + i = (ls n.Kids).length → G25 (.p3 n n.Kids ((ls n.Kids).length : Int) (i : Int) (cap a : Int)) = (if n.Kind = 4 then F37 (IntKind.wrap .i64 (2 * (IntKind.wrap .i64 (((ls n.Kids).length : Int) - 1)))) (cap (a + szl ((ls n.Kids).drop i)) : Int) >>= fun r => G25 (.p4 n r) else G25 (.p4 n (cap (a + szl ((ls n.Kids).drop i)) : Int)))
  | 0, i, a, h => by
    rw [G25.eq_4, dfi (by omega), List.drop_of_length_le (by omega), szl, Nat.add_zero]
    by_cases h4 : n.Kind = 4
    · rw [eti h4, if_pos h4]
    · rw [efi h4, if_neg h4]
  | m + 1, i, a, h => by
    obtain ⟨k, hk⟩ := get_ex (ls n.Kids) (i := i) (by omega)
    have c1 := cap_le (sz k)
    have c2 := cap_le a
    rw [G25.eq_4, dti (by omega), ixs hk, sm, ih k (List.mem_of_getElem? hk), sm, f37 _ _ (by omega) (by omega), sm, wn1 i (by omega), cap_add, g25_3 n hl ih m (i + 1) (a + sz k) (by omega), drop_cons hk, szl, Nat.add_assoc]
theorem g25 : ∀ (n : T27) (b : Nat), cnt n ≤ 100000 → good n b → G25 (.e n) = some (cap (sz n) : Int) := by
  intro n
  induction n using tree_ind with
  | h n ih =>
    intro b hc hg
    have he := cnt_eq n
    have hl := cntl_len (ls n.Kids)
    rw [good_eq] at hg
    have ih' : ∀ k ∈ ls n.Kids, G25 (.e k) = some (cap (sz k) : Int) := fun k hk => by
      obtain ⟨b', hb'⟩ := goodl_mem hg.2 hk
      exact ih k hk b' (by have := cnt_kid hk; omega) hb'
    have hp := hg.1.1
    have h3 := g25_3 n (by omega) ih' (ls n.Kids).length 0 0 (by omega)
    rw [List.drop_zero, Nat.zero_add] at h3
    have h3' := (G25.eq_2 n 0).trans h3
    have c1 := cap_le (szl (ls n.Kids))
    rw [G25.eq_1, sz_eq]
    by_cases k1 : n.Kind = 1
    · rw [eti k1, if_pos k1]; rfl
    rw [efi k1, if_neg k1]
    by_cases k3 : n.Kind = 3
    · rw [eti k3, if_pos k3, h3', if_neg (by omega), G25.eq_5, efi (by omega)]
    rw [efi k3, if_neg k3]
    by_cases k4 : n.Kind = 4
    · rw [eti k4, if_pos k4, h3', if_pos k4]
      have hk2 : 2 ≤ (ls n.Kids).length := by
        unfold pl at hp
        simp only [k4, or_true, if_true, Bool.and_eq_true, decide_eq_true_eq] at hp
        exact hp.1.1.1
      rw [wm1 _ (by omega) (by omega), wi _ (by omega) (by omega), f37' (2 * ((ls n.Kids).length - 1)) (cap (szl (ls n.Kids))) (by omega) rfl (by omega) (by omega), sm, cap_add1, G25.eq_5, efi (by omega)]
    rw [efi k4, if_neg k4]
    by_cases k6 : n.Kind = 6
    · rw [eti k6, if_pos k6, h3', if_neg (by omega), G25.eq_5, eti k6, f37' 2 (cap (szl (ls n.Kids))) (show (2 : Int) = ((2 : Nat) : Int) from rfl) rfl (by omega) (by omega), sm, cap_add1]
    rw [efi k6, if_neg k6]
    by_cases k5 : n.Kind = 5
    · rw [eti k5, if_pos k5]
      unfold pl at hp
      simp (config := {decide := true}) only [k5, or_self, if_false, if_true, Bool.and_eq_true, decide_eq_true_eq] at hp
      obtain ⟨⟨⟨⟨hmm, hk1⟩, _⟩, _⟩, _⟩ := hp
      obtain ⟨k, hk⟩ : ∃ k, ls n.Kids = [k] := List.length_eq_one_iff.1 hk1
      have hkm : k ∈ ls n.Kids := by simp [hk]
      obtain ⟨b', hb'⟩ := goodl_mem hg.2 hkm
      have hck := cnt_kid hkm
      have hix : ix (ls n.Kids) 0 = some k := by rw [hk]; rfl
      have e1 : szl (ls n.Kids) = sz k := by rw [hk, szl, szl]; rfl
      have e2 : gcntl (ls n.Kids) = gcnt k := by rw [hk, gcntl, gcntl]; rfl
      rw [hix, sm, ih' k hkm, sm, sm]
      unfold F38
      rw [g38 k b' (by omega) hb', sm, e1, e2]
      have fin : ∀ r : Nat, G25 (.p2 n (cap r : Int) 0) = some (cap (n.Min.toNat * r + if n.Max = -1 then r + 4 else (n.Max - n.Min).toNat * (r + 3)) : Int) := by
        intro r
        have c2 := cap_le r
        obtain ⟨mn, hmn⟩ := nat_of' hmm.1
        rw [G25.eq_3, hmn, Int.toNat_natCast]
        have hb1 : mn * cap r ≤ 255 * 16385 := Nat.mul_le_mul (by omega) c2
        rw [← Int.natCast_mul, wi _ (by omega) (by omega), f37' (mn * cap r) 0 rfl (show (0 : Int) = ((0 : Nat) : Int) from rfl) (by omega) (by omega), sm, Nat.zero_add, cap_mul]
        have c3 := cap_le (mn * r)
        by_cases hx : n.Max = -1
        · rw [eti hx, if_pos hx, wi _ (by omega) (by omega), f37' (cap r + 4) (cap (mn * r)) (by omega) rfl (by omega) (by omega), sm, cap_add1, ← Nat.add_assoc, Nat.add_comm _ (cap r), Nat.add_assoc, cap_add1]
          exact congrArg (fun x : Nat => some ((cap x : Nat) : Int)) (by omega)
        · obtain ⟨d, hd⟩ : ∃ d : Nat, n.Max - (mn : Int) = d := ⟨(n.Max - (mn : Int)).toNat, by omega⟩
          have hb2 : d * (cap r + 3) ≤ 255 * 16388 := Nat.mul_le_mul (by omega) (by omega)
          have e5 : (d : Int) * ((cap r : Int) + 3) = ((d * (cap r + 3) : Nat) : Int) := by rw [Int.natCast_mul, Int.natCast_add]; rfl
          rw [efi hx, if_neg hx, hd, Int.toNat_natCast, wi (d : Int) (by omega) (by omega), wi ((cap r : Int) + 3) (by omega) (by omega), e5, wi _ (by omega) (by omega), f37' (d * (cap r + 3)) (cap (mn * r)) rfl rfl (by omega) (by omega), sm, cap_add1, ← cap_add2, cap_mul3, cap_add2]
      by_cases hg0 : gcnt k = 0
      · rw [dfi (by simp [glo, hg0]), fin, if_pos hg0]; simp only [Nat.add_zero]
      · rw [dti (by simp only [glo, if_neg hg0]; omega), if37 _ (by have := cap_le (sz k); omega), cap_add1, fin, if_neg hg0]
    · rw [efi k5, if_neg k5]; rfl
theorem f9 (n : T27) : ∃ r : Int × Int, F9 n = some r ∧ (∃ w : Int, F12 n = some w ∧ (w ≠ 0 → r = (0, w)) ∧ (w = 0 → good n 0 ∧ cnt n ≤ 8192 ∧ r = if sz n < 16384 then (((sz n + 1 : Nat) : Int), 0) else (0, 3))) := by
  obtain ⟨w, hw, h⟩ := f12 n
  unfold F9
  rw [hw, sm]
  by_cases h0 : w = 0
  · obtain ⟨hg, hc⟩ := h h0
    subst h0
    rw [nfi rfl]
    unfold F25
    rw [g25 n 0 (by omega) hg, sm]
    by_cases hs : sz n < 16384
    · have : cap (sz n) = sz n := by unfold cap; omega
      rw [this, dti (by omega), wn1 _ (by omega)]
      exact ⟨_, rfl, 0, rfl, fun h => absurd rfl h, fun _ => ⟨hg, hc, by rw [if_pos hs]⟩⟩
    · have : 16384 ≤ cap (sz n) := by unfold cap; omega
      rw [dfi (by omega)]
      exact ⟨_, rfl, 0, rfl, fun h => absurd rfl h, fun _ => ⟨hg, hc, by rw [if_neg hs]⟩⟩
  · rw [nti h0]
    exact ⟨_, rfl, w, rfl, fun _ => rfl, fun h => absurd h h0⟩
end Go.Proofs.Ytjbafmnocopofaa
end
section
/-
  Nfa: the program of a tree: what Compile lays out.
-/

namespace Go.Proofs.Ytjbafmnocopofaa
open Go AW
set_option linter.unusedVariables false
set_option linter.unusedSimpArgs false
set_option maxHeartbeats 4000000
abbrev ik (k : Int) : T52 := { Kind := k, Set := Arr.rep 4 0, To := 0, Group := 0, Last := 0, Slot := 0 }
abbrev iTo (k t : Int) : T52 := { Kind := k, Set := Arr.rep 4 0, To := t, Group := 0, Last := 0, Slot := 0 }
abbrev iGr (k g : Int) : T52 := { Kind := k, Set := Arr.rep 4 0, To := 0, Group := g, Last := 0, Slot := 0 }
abbrev iCl (g l : Int) : T52 := { Kind := 6, Set := Arr.rep 4 0, To := 0, Group := g, Last := l, Slot := 0 }
abbrev iSl (k s : Int) : T52 := { Kind := k, Set := Arr.rep 4 0, To := 0, Group := 0, Last := 0, Slot := s }
abbrev iSet (s : Arr 4 Int) : T52 := { Kind := 1, Set := s, To := 0, Group := 0, Last := 0, Slot := 0 }
noncomputable def lh (k : T27) : Int × Int := (F38 k).getD (0, 0)
def clr (l : Int × Int) : List T52 := if l.1 > 0 then [iCl l.1 l.2] else []
/-- A round that need not move, one that must. -/
def rnd (f : Nat → Nat → List T52) (l : Int × Int) (a fr : Nat) : List T52 := clr l ++ f (a + (clr l).length) fr
def frd (f : Nat → Nat → List T52) (l : Int × Int) (a fr : Nat) : List T52 := iSl 7 fr :: (rnd f l (a + 1) (fr + 1) ++ [iSl 8 fr])
def mins (f : Nat → Nat → List T52) (l : Int × Int) (r fr : Nat) : Nat → Nat → List T52
  | 0, _ => []
  | m + 1, a => rnd f l a fr ++ mins f l r fr m (a + r)
def opts (f : Nat → Nat → List T52) (l : Int × Int) (r fr : Nat) (e : Nat) : Nat → Nat → List T52
  | 0, _ => []
  | m + 1, a => iTo 2 e :: (frd f l (a + 1) fr ++ opts f l r fr e m (a + r + 3))
def repc (f : Nat → Nat → List T52) (l : Int × Int) (r : Nat) (mn mx : Int) (a fr : Nat) : List T52 :=
  mins f l r fr mn.toNat a ++
  if mx = -1 then iTo 2 ((a + mn.toNat * r + r + 4 : Nat) : Int) :: (frd f l (a + mn.toNat * r + 1) fr ++ [iTo 3 ((a + mn.toNat * r : Nat) : Int)])
  else opts f l r fr (a + mn.toNat * r + (mx - mn).toNat * (r + 3)) (mx - mn).toNat (a + mn.toNat * r)
mutual
noncomputable def cd : T27 → Nat → Nat → List T52
  | ⟨k, st, mn, mx, g, o⟩, a, fr =>
    if k = 1 then [] else if k = 2 then [iSet st] else if k = 3 then cdo o a fr else if k = 4 then alo o (a + szo o + 2 * ((ls o).length - 1)) a fr else if k = 5 then rpo o mn mx a fr
    else if k = 6 then iGr 4 g :: (cho o (a + 1) fr ++ [iGr 5 g]) else if k = 7 then [iGr 9 g] else if k = 8 then [ik 10] else if k = 9 then [ik 11] else []
noncomputable def cdo : Option (List T27) → Nat → Nat → List T52
  | none, _, _ => []
  | some l, a, fr => cdl l a fr
noncomputable def cdl : List T27 → Nat → Nat → List T52
  | [], _, _ => []
  | x :: l, a, fr => cd x a fr ++ cdl l (a + sz x) fr
noncomputable def alo : Option (List T27) → Nat → Nat → Nat → List T52
  | none, _, _, _ => []
  | some l, e, a, fr => all l e a fr
noncomputable def all : List T27 → Nat → Nat → Nat → List T52
  | [], _, _, _ => []
  | x :: l, e, a, fr => if l.isEmpty then cd x a fr else iTo 2 ((a + sz x + 2 : Nat) : Int) :: (cd x (a + 1) fr ++ iTo 3 e :: all l e (a + sz x + 2) fr)
noncomputable def rpo : Option (List T27) → Int → Int → Nat → Nat → List T52
  | none, _, _, _, _ => []
  | some l, mn, mx, a, fr => rpl l mn mx a fr
noncomputable def rpl : List T27 → Int → Int → Nat → Nat → List T52
  | [], _, _, _, _ => []
  | x :: _, mn, mx, a, fr => repc (cd x) (lh x) (rsz x) mn mx a fr
noncomputable def cho : Option (List T27) → Nat → Nat → List T52
  | none, _, _ => []
  | some l, a, fr => chl l a fr
noncomputable def chl : List T27 → Nat → Nat → List T52
  | [], _, _ => []
  | x :: _, a, fr => cd x a fr
end
theorem cd_eq (n : T27) (a fr : Nat) : cd n a fr = if n.Kind = 1 then [] else if n.Kind = 2 then [iSet n.Set] else if n.Kind = 3 then cdl (ls n.Kids) a fr else if n.Kind = 4 then all (ls n.Kids) (a + szl (ls n.Kids) + 2 * ((ls n.Kids).length - 1)) a fr else if n.Kind = 5 then rpl (ls n.Kids) n.Min n.Max a fr
    else if n.Kind = 6 then iGr 4 n.Group :: (chl (ls n.Kids) (a + 1) fr ++ [iGr 5 n.Group]) else if n.Kind = 7 then [iGr 9 n.Group] else if n.Kind = 8 then [ik 10] else if n.Kind = 9 then [ik 11] else [] := by
  obtain ⟨k, st, mn, mx, g, o⟩ := n
  rw [cd]
  cases o with
  | none => rfl
  | some l => rfl
mutual
def dep : T27 → Nat
  | ⟨k, _, mn, mx, _, o⟩ => if k = 5 then (if mx = -1 ∨ mn < mx then depo o + 1 else if 0 < mn then depo o else 0) else depo o
def depo : Option (List T27) → Nat
  | none => 0
  | some l => depl l
def depl : List T27 → Nat
  | [] => 0
  | x :: l => max (dep x) (depl l)
end
theorem dep_eq (n : T27) : dep n = if n.Kind = 5 then (if n.Max = -1 ∨ n.Min < n.Max then depl (ls n.Kids) + 1 else if 0 < n.Min then depl (ls n.Kids) else 0) else depl (ls n.Kids) := by
  obtain ⟨_, _, _, _, _, o⟩ := n
  rw [dep]
  cases o with
  | none => rfl
  | some l => rfl
/-- What is known of a right tree's kinds. -/
theorem pl_kids {n : T27} (h : pl n = true) : (n.Kind = 3 ∨ n.Kind = 4) ∧ 2 ≤ (ls n.Kids).length ∨ n.Kind = 5 ∧ (0 ≤ n.Min ∧ n.Min ≤ 255 ∧ (n.Max = -1 ∨ n.Min ≤ n.Max ∧ n.Max ≤ 255)) ∧ (ls n.Kids).length = 1 ∨ n.Kind = 6 ∧ (ls n.Kids).length = 1 ∨ (n.Kind = 1 ∨ n.Kind = 2 ∨ n.Kind = 7 ∨ n.Kind = 8 ∨ n.Kind = 9) ∧ (ls n.Kids).length = 0 := by
  unfold pl at h
  simp only [Bool.and_eq_true] at h
  have h1 := h.1.1.1
  split at h1
  · exact .inl ⟨by assumption, by simpa using h1⟩
  · split at h1
    · simp only [Bool.and_eq_true, decide_eq_true_eq] at h1
      exact .inr (.inl ⟨by assumption, h1⟩)
    · split at h1
      · exact .inr (.inr (.inl ⟨by assumption, by simpa using h1⟩))
      · split at h1
        · exact .inr (.inr (.inr ⟨by assumption, by simpa using h1⟩))
        · cases h1
theorem f38 {k : T27} {b : Nat} (hc : cnt k ≤ 100000) (h : good k b) : F38 k = some (lh k) ∧ lh k = (glo b (gcnt k), ghi b (gcnt k)) := by
  have : F38 k = some (glo b (gcnt k), ghi b (gcnt k)) := g38 k b hc h
  unfold lh
  rw [this]
  exact ⟨rfl, rfl⟩
theorem clr_len {k : T27} {b : Nat} (hc : cnt k ≤ 100000) (h : good k b) : (clr (lh k)).length = if gcnt k = 0 then 0 else 1 := by
  rw [(f38 hc h).2]
  unfold clr glo
  by_cases h0 : gcnt k = 0
  · simp [h0]
  · rw [if_neg h0, if_neg h0, if_pos (show (b : Int) + 1 > 0 by omega)]; rfl
/-! ### Lengths -/
theorem rnd_len {f : Nat → Nat → List T52} {l : Int × Int} {s : Nat} (hf : ∀ a fr, (f a fr).length = s) (a fr : Nat) : (rnd f l a fr).length = s + (clr l).length := by
  unfold rnd; rw [List.length_append, hf]; omega
theorem frd_len {f : Nat → Nat → List T52} {l : Int × Int} {s : Nat} (hf : ∀ a fr, (f a fr).length = s) (a fr : Nat) : (frd f l a fr).length = s + (clr l).length + 2 := by
  unfold frd; rw [List.length_cons, List.length_append, rnd_len hf]; simp
theorem mins_len {f : Nat → Nat → List T52} {l : Int × Int} {s : Nat} (hf : ∀ a fr, (f a fr).length = s) (r fr : Nat) (hr : r = s + (clr l).length) : ∀ m a, (mins f l r fr m a).length = m * r
  | 0, a => by simp [mins]
  | m + 1, a => by rw [mins, List.length_append, rnd_len hf, mins_len hf r fr hr m, Nat.add_mul, ← hr]; omega
theorem opts_len {f : Nat → Nat → List T52} {l : Int × Int} {s : Nat} (hf : ∀ a fr, (f a fr).length = s) (r fr e : Nat) (hr : r = s + (clr l).length) : ∀ m a, (opts f l r fr e m a).length = m * (r + 3)
  | 0, a => by simp [opts]
  | m + 1, a => by rw [opts, List.length_cons, List.length_append, frd_len hf, opts_len hf r fr e hr m, Nat.add_mul, ← hr]; omega
theorem repc_len {f : Nat → Nat → List T52} {l : Int × Int} {s : Nat} (hf : ∀ a fr, (f a fr).length = s) (r : Nat) (hr : r = s + (clr l).length) (mn mx : Int) (a fr : Nat) : (repc f l r mn mx a fr).length = mn.toNat * r + if mx = -1 then r + 4 else (mx - mn).toNat * (r + 3) := by
  unfold repc
  rw [List.length_append, mins_len hf r fr hr]
  split
  · rw [List.length_cons, List.length_append, frd_len hf, ← hr]; simp
  · rw [opts_len hf r fr _ hr]
theorem cdl_len : ∀ (l : List T27), (∀ k ∈ l, ∀ a fr, (cd k a fr).length = sz k) → ∀ a fr, (cdl l a fr).length = szl l
  | [], _, a, fr => by rw [cdl, szl]; rfl
  | x :: l, h, a, fr => by rw [cdl, szl, List.length_append, h x (by simp), cdl_len l fun k hk => h k (by simp [hk])]
theorem all_len : ∀ (l : List T27), (∀ k ∈ l, ∀ a fr, (cd k a fr).length = sz k) → ∀ e a fr, (all l e a fr).length = szl l + 2 * (l.length - 1)
  | [], _, e, a, fr => by rw [all, szl]; rfl
  | [x], h, e, a, fr => by rw [all, if_pos (show ([] : List T27).isEmpty = true from rfl), szl, szl, h x (by simp)]; simp
  | x :: y :: l, h, e, a, fr => by
    have e1 : szl (x :: y :: l) = sz x + szl (y :: l) := by rw [szl]
    rw [all, if_neg (by simp), List.length_cons, List.length_append, List.length_cons, h x (by simp), all_len (y :: l) (fun k hk => h k (by simp at hk ⊢; right; exact hk)), e1]
    simp; omega
theorem cd_len : ∀ (n : T27) (b : Nat), cnt n ≤ 100000 → good n b → ∀ a fr, (cd n a fr).length = sz n := by
  intro n
  induction n using tree_ind with
  | h n ih =>
    intro b hc hg a fr
    rw [good_eq] at hg
    have ih' : ∀ k ∈ ls n.Kids, ∀ a fr, (cd k a fr).length = sz k := fun k hk => by
      obtain ⟨b', hb'⟩ := goodl_mem hg.2 hk
      exact ih k hk b' (by have := cnt_kid hk; omega) hb'
    rw [cd_eq, sz_eq]
    rcases pl_kids hg.1.1 with ⟨h, hk⟩ | ⟨h, hm, hk⟩ | ⟨h, hk⟩ | ⟨h, hk⟩
    · rcases h with h | h
      · simp (config := {decide := true}) only [h, if_true, if_false]; exact cdl_len _ ih' _ _
      · simp (config := {decide := true}) only [h, if_true, if_false]; exact all_len _ ih' _ _ _
    · obtain ⟨k, hk⟩ : ∃ k, ls n.Kids = [k] := List.length_eq_one_iff.1 hk
      have hkm : k ∈ ls n.Kids := by simp [hk]
      obtain ⟨b', hb'⟩ := goodl_mem hg.2 hkm
      have hcl := clr_len (by have := cnt_kid hkm; omega) hb'
      simp (config := {decide := true}) only [h, if_true, if_false]
      rw [hk, rpl, repc_len (s := sz k) (ih' k hkm) _ (by rw [hcl]; rfl)]
      have e1 : szl [k] = sz k := by rw [szl, szl]; rfl
      have e2 : gcntl [k] = gcnt k := by rw [gcntl, gcntl]; rfl
      rw [e1, e2]; rfl
    · obtain ⟨k, hk⟩ : ∃ k, ls n.Kids = [k] := List.length_eq_one_iff.1 hk
      have hkm : k ∈ ls n.Kids := by simp [hk]
      simp (config := {decide := true}) only [h, if_true, if_false]
      have e1 : szl [k] = sz k := by rw [szl, szl]; rfl
      rw [hk, chl, List.length_cons, List.length_append, ih' k hkm, e1]; simp
    · rcases h with h | h | h | h | h <;> simp (config := {decide := true}) only [h, if_true, if_false, List.length_cons, List.length_nil]
end Go.Proofs.Ytjbafmnocopofaa
end
section
/-
  Nfa: Compile lays out just the program of the tree.
-/

namespace Go.Proofs.Ytjbafmnocopofaa
open Go AW
set_option linter.unusedVariables false
set_option linter.unusedSimpArgs false
set_option maxHeartbeats 4000000
def intz (L : List Nat) : List Int := L.map fun (n : Nat) => (n : Int)
theorem intz_len (L : List Nat) : (intz L).length = L.length := by simp [intz]
/-- A compiler: what it has laid out, its slots, its free rounds. -/
def Co (L : List T52) (s fr : Nat) : T65 := { code := so L, slots := (s : Int), free := (fr : Int) }
theorem co_code (L : List T52) (s fr : Nat) : ls (Co L s fr).code = L := ls_so L
theorem co_free (L : List T52) (s fr : Nat) : (Co L s fr).free = (fr : Int) := rfl
theorem vset_so {α : Type} (L : List α) (i : Nat) (v : α) : vset (so L) (i : Int) v = so (L.set i v) := by cases L <;> simp [so, vset] <;> cases i <;> rfl
theorem f27 (L : List T52) (s fr : Nat) (x : T52) (h : L.length ≤ 100000) : F27 (Co L s fr) x = some ((L.length : Int), Co (L ++ [x]) s fr) := by
  have e : ls (some [x]) = [x] := rfl
  unfold F27
  rw [co_code, if_pos (by rw [e]; simp; omega), e]
  have e2 : sapp (Co L s fr).code [x] = so (L ++ [x]) := sapp_so L [x]
  rw [e2, ls_so, List.length_append, List.length_singleton, wm1 _ (by omega) (by omega)]
  rfl
theorem set_mid {α : Type} (A B : List α) (x y : α) : (A ++ x :: B).set A.length y = A ++ y :: B := by simp
theorem get_mid {α : Type} (A B : List α) (x : α) : (A ++ x :: B)[A.length]? = some x := by simp
/-- What is asked of a tree. -/
def Pn (n : T27) : Prop := ∀ (L : List T52) (s fr : Nat), L.length + sz n ≤ 16384 → fr ≤ L.length → fr ≤ s → G26r (.e26 (Co L s fr) n) = some (Co (L ++ cd n L.length fr) (max s (fr + dep n)) fr)
def Ln (n : T27) : Prop := ∀ a fr, (cd n a fr).length = sz n
theorem p51 (n : T27) (hl : (ls n.Kids).length ≤ 100000) (ih : ∀ k ∈ ls n.Kids, Pn k ∧ Ln k) : ∀ (m i : Nat) (L : List T52) (s fr : Nat), m + i = (ls n.Kids).length → L.length + szl ((ls n.Kids).drop i) ≤ 16384 → fr ≤ L.length → fr ≤ s →
    G26r (.p51_1 n.Kids ((ls n.Kids).length : Int) (i : Int) (Co L s fr)) = some (Co (L ++ cdl ((ls n.Kids).drop i) L.length fr) (max s (fr + depl ((ls n.Kids).drop i))) fr)
  | 0, i, L, s, fr, h, hs, hf, hfs => by
    rw [G26r.eq_3, dfi (by omega), List.drop_of_length_le (by omega), cdl, depl, List.append_nil, Nat.add_zero, Nat.max_eq_left hfs]
  | m + 1, i, L, s, fr, h, hs, hf, hfs => by
    obtain ⟨k, hk⟩ := get_ex (ls n.Kids) (i := i) (by omega)
    obtain ⟨pk, lk⟩ := ih k (List.mem_of_getElem? hk)
    rw [drop_cons hk, szl] at hs
    have hlk := lk L.length fr
    have hll : (L ++ cd k L.length fr).length = L.length + sz k := by rw [List.length_append, hlk]
    rw [G26r.eq_3, dti (by omega), ixs hk, sm, pk L s fr (by omega) hf hfs, sm, wn1 i (by omega), p51 n hl ih m (i + 1) _ _ fr (by omega) (by omega) (by omega) (by omega), drop_cons hk, cdl, depl, hll, List.append_assoc]
    have e : max (max s (fr + dep k)) (fr + depl ((ls n.Kids).drop (i + 1))) = max s (fr + max (dep k) (depl ((ls n.Kids).drop (i + 1)))) := by omega
    rw [e]
/-! ### What is put in later -/
def pat (e : Nat) (C : List T52) (p : Nat) : List T52 := match C[p]? with
  | some x => C.set p { x with To := (e : Int) }
  | none => C
theorem pat_len (e : Nat) (C : List T52) (p : Nat) : (pat e C p).length = C.length := by unfold pat; split <;> simp
theorem pats_len (e : Nat) : ∀ (l : List Nat) (C : List T52), (l.foldl (pat e) C).length = C.length
  | [], C => rfl
  | p :: l, C => by rw [List.foldl_cons, pats_len e l, pat_len]
theorem pat_mid (e : Nat) (A B : List T52) (x : T52) : pat e (A ++ x :: B) A.length = A ++ { x with To := (e : Int) } :: B := by
  unfold pat; rw [get_mid]; simp only; rw [set_mid]
theorem pat_co {C : List T52} {p : Nat} {x : T52} (s fr : Nat) (h : C[p]? = some x) : ({ Co C s fr with code := (vset (Co C s fr).code (p : Int) ({ x with To := (C.length : Int) } : T52)) } : T65) = Co (pat C.length C p) s fr := by
  unfold pat; rw [h]; simp only [Co]; rw [vset_so]
theorem p53_2 (O : List Nat) (hO : O.length ≤ 1000000) : ∀ (m i : Nat) (C : List T52) (s fr : Nat), m + i = O.length → (∀ p ∈ O, p < C.length) →
    G26r (.p53_2 (so (intz O)) (O.length : Int) (i : Int) (Co C s fr)) = some (Co ((O.drop i).foldl (pat C.length) C) s fr)
  | 0, i, C, s, fr, h, hp => by
    rw [G26r.eq_7, dfi (by omega), List.drop_of_length_le (by omega)]; rfl
  | m + 1, i, C, s, fr, h, hp => by
    obtain ⟨p, hpi⟩ := get_ex O (i := i) (by omega)
    obtain ⟨x, hx⟩ := get_ex C (hp p (List.mem_of_getElem? hpi))
    rw [G26r.eq_7, dti (by omega), ls_so, ixs (c := (p : Int)) (by simp [intz, hpi]), sm, co_code, ixs hx, sm, pat_co s fr hx, wn1 i (by omega), p53_2 O hO m (i + 1) _ s fr (by omega) (by simpa [pat_len] using hp), pat_len, drop_cons hpi]; rfl
theorem p54_4 (O : List Nat) (hO : O.length ≤ 1000000) : ∀ (m i : Nat) (C : List T52) (s fr : Nat), m + i = O.length → (∀ p ∈ O, p < C.length) →
    G26r (.p54_4 (so (intz O)) (O.length : Int) (i : Int) (Co C s fr)) = some (Co ((O.drop i).foldl (pat C.length) C) s fr)
  | 0, i, C, s, fr, h, hp => by
    rw [G26r.eq_12, dfi (by omega), List.drop_of_length_le (by omega)]; rfl
  | m + 1, i, C, s, fr, h, hp => by
    obtain ⟨p, hpi⟩ := get_ex O (i := i) (by omega)
    obtain ⟨x, hx⟩ := get_ex C (hp p (List.mem_of_getElem? hpi))
    rw [G26r.eq_12, dti (by omega), ls_so, ixs (c := (p : Int)) (by simp [intz, hpi]), sm, co_code, ixs hx, sm, pat_co s fr hx, wn1 i (by omega), p54_4 O hO m (i + 1) _ s fr (by omega) (by simpa [pat_len] using hp), pat_len, drop_cons hpi]; rfl
/-! ### One of several -/
noncomputable def alf : List T27 → Nat → Nat → Nat → List T52
  | [], _, _, _ => []
  | x :: l, e, a, fr => iTo 2 ((a + sz x + 2 : Nat) : Int) :: (cd x (a + 1) fr ++ iTo 3 e :: alf l e (a + sz x + 2) fr)
def jps : List T27 → Nat → List Nat
  | [], _ => []
  | x :: l, a => (a + sz x + 1) :: jps l (a + sz x + 2)
theorem jps_len : ∀ (l : List T27) a, (jps l a).length = l.length
  | [], _ => rfl
  | x :: l, a => by rw [jps, List.length_cons, jps_len l, List.length_cons]
theorem alf_len : ∀ (l : List T27), (∀ k ∈ l, Ln k) → ∀ e a fr, (alf l e a fr).length = szl l + 2 * l.length
  | [], _, e, a, fr => by rw [alf, szl]; rfl
  | x :: l, h, e, a, fr => by
    rw [alf, List.length_cons, List.length_append, List.length_cons, h x (by simp), alf_len l (fun k hk => h k (by simp [hk])), szl]
    simp; omega
theorem all_front : ∀ (l : List T27) (k : T27) (e a fr : Nat), all (l ++ [k]) e a fr = alf l e a fr ++ cd k (a + szl l + 2 * l.length) fr
  | [], k, e, a, fr => by
    rw [List.nil_append, all, if_pos (show ([] : List T27).isEmpty = true from rfl), alf, szl]; rfl
  | x :: l, k, e, a, fr => by
    rw [List.cons_append, all, if_neg (by simp), all_front l k, alf, szl]
    have e1 : a + sz x + 2 + szl l + 2 * l.length = a + (sz x + szl l) + 2 * (x :: l).length := by simp; omega
    rw [e1]; simp
theorem jps_lt : ∀ (l : List T27) (a : Nat), ∀ p ∈ jps l a, p < a + szl l + 2 * l.length
  | [], a, p, h => by simp [jps] at h
  | x :: l, a, p, h => by
    rw [jps] at h
    rw [szl, List.length_cons]
    rcases List.mem_cons.1 h with rfl | h
    · omega
    · have := jps_lt l _ p h; omega
theorem alf_pat (e e0 fr : Nat) : ∀ (l : List T27), (∀ k ∈ l, Ln k) → ∀ (A B : List T52), (jps l A.length).foldl (pat e) (A ++ (alf l e0 A.length fr ++ B)) = A ++ (alf l e A.length fr ++ B)
  | [], _, A, B => by rw [jps, alf, alf]; rfl
  | x :: l, h, A, B => by
    have hx := h x (by simp) (A.length + 1) fr
    rw [jps, alf, alf, List.foldl_cons]
    have e1 : A ++ (iTo 2 ((A.length + sz x + 2 : Nat) : Int) :: (cd x (A.length + 1) fr ++ iTo 3 e0 :: alf l e0 (A.length + sz x + 2) fr) ++ B) = (A ++ iTo 2 ((A.length + sz x + 2 : Nat) : Int) :: cd x (A.length + 1) fr) ++ iTo 3 e0 :: (alf l e0 (A.length + sz x + 2) fr ++ B) := by simp
    have e2 : A.length + sz x + 1 = (A ++ iTo 2 ((A.length + sz x + 2 : Nat) : Int) :: cd x (A.length + 1) fr).length := by simp [hx]; omega
    rw [e1, e2, pat_mid]
    have e3 : (A ++ iTo 2 ((A.length + sz x + 2 : Nat) : Int) :: cd x (A.length + 1) fr) ++ iTo 3 e :: (alf l e0 (A.length + sz x + 2) fr ++ B) = (A ++ iTo 2 ((A.length + sz x + 2 : Nat) : Int) :: (cd x (A.length + 1) fr ++ [iTo 3 e])) ++ (alf l e0 (A.length + sz x + 2) fr ++ B) := by simp
    have e4 : A.length + sz x + 2 = (A ++ iTo 2 ((A.length + sz x + 2 : Nat) : Int) :: (cd x (A.length + 1) fr ++ [iTo 3 e])).length := by simp [hx]; omega
    have ihh := alf_pat e e0 fr l (fun k hk => h k (by simp [hk])) (A ++ iTo 2 ((A.length + sz x + 2 : Nat) : Int) :: (cd x (A.length + 1) fr ++ [iTo 3 e])) B
    rw [← e4] at ihh
    have e5 : (({ iTo 3 e0 with To := (e : Int) } : T52)) = iTo 3 e := rfl
    rw [e5, e3, ihh]
    simp
theorem depl_app : ∀ (l : List T27) (k : T27), depl (l ++ [k]) = max (depl l) (dep k)
  | [], k => by simp [depl]
  | x :: l, k => by rw [List.cons_append, depl, depl_app l, depl]; omega
theorem szl_app : ∀ (l : List T27) (k : T27), szl (l ++ [k]) = szl l + sz k
  | [], k => by simp [szl]
  | x :: l, k => by rw [List.cons_append, szl, szl_app l, szl]; omega
theorem p53_1 (n : T27) (last : Int) (W : Sl T27) (F : List T27) (hW : ls W = F) (hl : F.length ≤ 100000) (ih : ∀ k ∈ F, Pn k ∧ Ln k) : ∀ (m i : Nat) (L : List T52) (s fr : Nat) (O : List Nat), m + i = F.length → L.length + szl (F.drop i) + 2 * (F.drop i).length ≤ 16384 → fr ≤ L.length → fr ≤ s → O.length ≤ i →
    G26r (.p53_1 n last W (F.length : Int) (i : Int) (Co L s fr) (so (intz O))) = (ix (ls n.Kids) last >>= fun v => G26r (.e26 (Co (L ++ alf (F.drop i) 0 L.length fr) (max s (fr + depl (F.drop i))) fr) v) >>= fun r => G26r (.p53_2 (so (intz (O ++ jps (F.drop i) L.length))) ((O ++ jps (F.drop i) L.length).length : Int) 0 r))
  | 0, i, L, s, fr, O, h, hs, hf, hfs, hO => by
    rw [G26r.eq_6, dfi (by omega), List.drop_of_length_le (by omega), alf, depl, jps, List.append_nil, List.append_nil, Nat.add_zero, Nat.max_eq_left hfs, ls_so, intz_len]
  | m + 1, i, L, s, fr, O, h, hs, hf, hfs, hO => by
    obtain ⟨k, hk⟩ := get_ex F (i := i) (by omega)
    obtain ⟨pk, lk⟩ := ih k (List.mem_of_getElem? hk)
    have hdl : (F.drop i).length = (F.drop (i + 1)).length + 1 := by rw [drop_cons hk, List.length_cons]
    rw [hdl, drop_cons hk, szl] at hs
    have h1 : (L ++ [ik 2]).length = L.length + 1 := by simp
    have h2 : (L ++ [ik 2] ++ cd k (L.length + 1) fr).length = L.length + 1 + sz k := by rw [List.length_append, h1, lk]
    have e0 : ls (some [((L.length + 1 + sz k : Nat) : Int)]) = intz [L.length + 1 + sz k] := rfl
    have e1 : (so (intz O) : Sl Int) = so (intz O) := rfl
    rw [G26r.eq_6, dti (by omega), hW, ixs hk, sm, f27 L s fr _ (by omega), sm, pk (L ++ [ik 2]) s fr (by rw [h1]; omega) (by rw [h1]; omega) hfs, sm, h1, f27 (L ++ [ik 2] ++ cd k (L.length + 1) fr) _ _ _ (by rw [h2]; omega), sm, h2]
    rw [if_pos (by rw [ls_so]; simp [intz, ls]; omega), co_code]
    have e2 : L ++ [ik 2] ++ cd k (L.length + 1) fr ++ [ik 3] = L ++ ik 2 :: (cd k (L.length + 1) fr ++ [ik 3]) := by simp
    have e3 : (L ++ ik 2 :: (cd k (L.length + 1) fr ++ [ik 3])).length = L.length + sz k + 2 := by rw [List.length_append, List.length_cons, List.length_append, lk]; simp; omega
    simp only [e2]
    rw [ixs (get_mid L _ (ik 2)), sm, pat_co _ _ (get_mid L _ (ik 2)), e3, pat_mid, e0, sapp_so, wn1 i (by omega)]
    have e4 : intz O ++ intz [L.length + 1 + sz k] = intz (O ++ [L.length + 1 + sz k]) := by simp [intz]
    have e5 : (({ ik 2 with To := ((L.length + sz k + 2 : Nat) : Int) } : T52)) = iTo 2 ((L.length + sz k + 2 : Nat) : Int) := rfl
    have e6 : (L ++ iTo 2 ((L.length + sz k + 2 : Nat) : Int) :: (cd k (L.length + 1) fr ++ [ik 3])).length = L.length + sz k + 2 := by rw [List.length_append, List.length_cons, List.length_append, lk]; simp; omega
    rw [e4, e5, p53_1 n last W F hW hl ih m (i + 1) _ _ fr _ (by omega) (by omega) (by omega) (by omega) (by simp; omega), drop_cons hk, alf, depl, jps, e6]
    have e7 : L ++ iTo 2 ((L.length + sz k + 2 : Nat) : Int) :: (cd k (L.length + 1) fr ++ [ik 3]) ++ alf (F.drop (i + 1)) 0 (L.length + sz k + 2) fr = L ++ iTo 2 ((L.length + sz k + 2 : Nat) : Int) :: (cd k (L.length + 1) fr ++ iTo 3 ((0 : Nat) : Int) :: alf (F.drop (i + 1)) 0 (L.length + sz k + 2) fr) := by simp
    have e8 : O ++ [L.length + 1 + sz k] ++ jps (F.drop (i + 1)) (L.length + sz k + 2) = O ++ (L.length + sz k + 1) :: jps (F.drop (i + 1)) (L.length + sz k + 2) := by simp; omega
    have e9 : max (max s (fr + dep k)) (fr + depl (F.drop (i + 1))) = max s (fr + max (dep k) (depl (F.drop (i + 1)))) := by omega
    rw [e7, e8, e9]
end Go.Proofs.Ytjbafmnocopofaa
end
section
/-
  Nfa: Compile lays out just the program of the tree: repeats, and all together.
-/

namespace Go.Proofs.Ytjbafmnocopofaa
open Go AW
set_option linter.unusedVariables false
set_option linter.unusedSimpArgs false
set_option maxHeartbeats 4000000
theorem co_up (L : List T52) (s fr : Nat) (h : fr < 100000) : ({ Co L s fr with free := IntKind.wrap .i64 ((Co L s fr).free + 1), slots := (if (IntKind.wrap .i64 ((Co L s fr).free + 1)) > (Co L s fr).slots then (IntKind.wrap .i64 ((Co L s fr).free + 1)) else (Co L s fr).slots) } : T65) = Co L (max s (fr + 1)) (fr + 1) := by
  show ({ code := so L, slots := (if (IntKind.wrap .i64 ((fr : Int) + 1)) > (s : Int) then (IntKind.wrap .i64 ((fr : Int) + 1)) else (s : Int)), free := IntKind.wrap .i64 ((fr : Int) + 1) } : T65) = _
  rw [wn1 fr (by omega)]
  have : (if ((fr + 1 : Nat) : Int) > (s : Int) then ((fr + 1 : Nat) : Int) else (s : Int)) = ((max s (fr + 1) : Nat) : Int) := by split <;> omega
  rw [this]
  rfl
theorem co_down (L : List T52) (s fr : Nat) (h : fr < 100000) : ({ Co L s (fr + 1) with free := IntKind.wrap .i64 ((Co L s (fr + 1)).free - 1) } : T65) = Co L s fr := by
  simp only [Co]
  rw [wm1 (fr + 1) (by omega) (by omega)]
  rfl
/-- What is asked of a repeat's kid. -/
structure Kd (k : T27) : Prop where
  p : Pn k
  l : Ln k
  g : F38 k = some (lh k)
  c : (clr (lh k)).length = if gcnt k = 0 then 0 else 1
theorem clr_of {k : T27} (hk : Kd k) : sz k + (clr (lh k)).length = rsz k := by rw [hk.c]; rfl
theorem p59_1 {k : T27} (hk : Kd k) (free : Bool) (slot : Int) (L : List T52) (s fr : Nat) (h : L.length + rsz k ≤ 16384) :
    G26r (.p59_1 free k slot (Co L s fr)) = G26r (.p59_2 free k slot (Co (L ++ clr (lh k)) s fr)) := by
  rw [G26r.eq_14, hk.g, sm]
  unfold clr
  by_cases h0 : (lh k).1 > 0
  · rw [dti h0, f27 _ _ _ _ (by omega), sm, if_pos h0]
  · rw [dfi h0, if_neg h0, List.append_nil]
theorem p59_r {k : T27} (hk : Kd k) (L : List T52) (s fr : Nat) (h : L.length + rsz k ≤ 16384) (hf : fr ≤ L.length) (hfs : fr ≤ s) :
    G26r (.e59 (Co L s fr) k false) = some (Co (L ++ rnd (cd k) (lh k) L.length fr) (max s (fr + dep k)) fr) := by
  have hr := clr_of hk
  have hl : (L ++ clr (lh k)).length = L.length + (clr (lh k)).length := List.length_append
  rw [G26r.eq_13, if_neg (by simp), p59_1 hk _ _ _ _ _ h, G26r.eq_15, hk.p (L ++ clr (lh k)) s fr (by rw [hl]; omega) (by rw [hl]; omega) hfs, sm, if_neg (by simp), hl]
  unfold rnd
  rw [List.append_assoc]
theorem p59_f {k : T27} (hk : Kd k) (L : List T52) (s fr : Nat) (h : L.length + rsz k + 2 ≤ 16384) (hf : fr ≤ L.length) (hfs : fr ≤ s) :
    G26r (.e59 (Co L s fr) k true) = some (Co (L ++ frd (cd k) (lh k) L.length fr) (max s (fr + (dep k + 1))) fr) := by
  have hr := clr_of hk
  have h1 : (L ++ [iSl 7 fr]).length = L.length + 1 := by simp
  have hl : (L ++ [iSl 7 fr] ++ clr (lh k)).length = L.length + 1 + (clr (lh k)).length := by rw [List.length_append, h1]
  rw [G26r.eq_13, if_pos rfl, f27 _ _ _ _ (by omega), sm]
  have e1 := co_up (L ++ [iSl 7 fr]) s fr (by omega)
  refine Eq.trans (congrArg (fun c => G26r (.p59_1 true k (fr : Int) c)) e1) ?_
  rw [p59_1 hk _ _ _ _ _ (by rw [h1]; omega), G26r.eq_15, hk.p (L ++ [iSl 7 fr] ++ clr (lh k)) _ (fr + 1) (by rw [hl]; omega) (by rw [hl]; omega) (by omega), sm, if_pos rfl]
  have e2 := co_down (L ++ [iSl 7 fr] ++ clr (lh k) ++ cd k (L ++ [iSl 7 fr] ++ clr (lh k)).length (fr + 1)) (max (max s (fr + 1)) (fr + 1 + dep k)) fr (by omega)
  rw [e2, f27 _ _ _ _ (by rw [List.length_append, hk.l, hl]; omega), sm, hl]
  have e3 : max (max s (fr + 1)) (fr + 1 + dep k) = max s (fr + (dep k + 1)) := by omega
  rw [e3]
  unfold frd rnd
  simp
theorem len0 {f : Nat → Nat → List T52} {l : Int × Int} {s : Nat} (hf : ∀ a fr, (f a fr).length = s) (r fr : Nat) (hr : r = s + (clr l).length) (h0 : r = 0) (m a : Nat) : mins f l r fr m a = [] :=
  List.eq_nil_of_length_eq_zero (by rw [mins_len hf r fr hr, h0, Nat.mul_zero])
theorem p54_1 (n : T27) {k : T27} (hk : Kd k) (hks : ix (ls n.Kids) 0 = some k) (mn : Nat) (hmn : mn ≤ 255) : ∀ (m i : Nat) (L : List T52) (s fr : Nat), m + i = mn → L.length + m * rsz k ≤ 16384 → fr ≤ L.length → fr ≤ s →
    G26r (.p54_1 n (mn : Int) (i : Int) (Co L s fr)) = G26r (.p54_2 n (Co (L ++ mins (cd k) (lh k) (rsz k) fr m L.length) (if m = 0 then s else max s (fr + dep k)) fr))
  | 0, i, L, s, fr, h, hs, hf, hfs => by
    rw [G26r.eq_9, dfi (by omega), mins, List.append_nil, if_pos rfl]
  | m + 1, i, L, s, fr, h, hs, hf, hfs => by
    have hr := clr_of hk
    have hrl : (rnd (cd k) (lh k) L.length fr).length = rsz k := by rw [rnd_len hk.l]; exact hr
    rw [Nat.add_mul, Nat.one_mul] at hs
    rw [G26r.eq_9, dti (by omega), hks, sm, p59_r hk L s fr (by omega) hf hfs, sm, co_code, co_code, List.length_append, hrl]
    by_cases h0 : rsz k = 0
    · rw [eti (by omega), if_neg (by omega), mins, len0 hk.l (rsz k) fr hr.symm h0, List.append_nil]
    · rw [efi (by omega), wn1 i (by omega), p54_1 n hk hks mn hmn m (i + 1) _ _ fr (by omega) (by rw [List.length_append, hrl]; omega) (by rw [List.length_append]; omega) (by omega), mins, List.length_append, hrl, if_neg (by omega : ¬ m + 1 = 0), List.append_assoc]
      have e : (if m = 0 then max s (fr + dep k) else max (max s (fr + dep k)) (fr + dep k)) = max s (fr + dep k) := by split <;> omega
      rw [e]
def opp (r : Nat) : Nat → Nat → List Nat
  | 0, _ => []
  | m + 1, a => a :: opp r m (a + r + 3)
theorem opp_lt (r : Nat) : ∀ (m a : Nat), ∀ p ∈ opp r m a, p < a + m * (r + 3)
  | 0, a, p, h => by simp [opp] at h
  | m + 1, a, p, h => by
    rw [opp] at h
    rw [Nat.add_mul, Nat.one_mul]
    rcases List.mem_cons.1 h with rfl | h
    · omega
    · have := opp_lt r m _ p h; omega
theorem opp_len (r : Nat) : ∀ (m a : Nat), (opp r m a).length = m
  | 0, _ => rfl
  | m + 1, a => by rw [opp, List.length_cons, opp_len r m]
theorem opt_pat (k : T27) (hk : Kd k) (e e0 fr : Nat) : ∀ (m : Nat) (A B : List T52), (opp (rsz k) m A.length).foldl (pat e) (A ++ (opts (cd k) (lh k) (rsz k) fr e0 m A.length ++ B)) = A ++ (opts (cd k) (lh k) (rsz k) fr e m A.length ++ B)
  | 0, A, B => by rw [opp, opts, opts]; rfl
  | m + 1, A, B => by
    have hfl : ∀ a, (frd (cd k) (lh k) a fr).length = rsz k + 2 := fun a => by rw [frd_len hk.l]; have := clr_of hk; omega
    rw [opp, opts, opts, List.foldl_cons]
    have e1 : A ++ (iTo 2 e0 :: (frd (cd k) (lh k) (A.length + 1) fr ++ opts (cd k) (lh k) (rsz k) fr e0 m (A.length + rsz k + 3)) ++ B) = A ++ iTo 2 e0 :: (frd (cd k) (lh k) (A.length + 1) fr ++ (opts (cd k) (lh k) (rsz k) fr e0 m (A.length + rsz k + 3) ++ B)) := by simp
    rw [e1, pat_mid]
    have e5 : (({ iTo 2 e0 with To := (e : Int) } : T52)) = iTo 2 e := rfl
    have e3 : A ++ iTo 2 e :: (frd (cd k) (lh k) (A.length + 1) fr ++ (opts (cd k) (lh k) (rsz k) fr e0 m (A.length + rsz k + 3) ++ B)) = (A ++ iTo 2 e :: frd (cd k) (lh k) (A.length + 1) fr) ++ (opts (cd k) (lh k) (rsz k) fr e0 m (A.length + rsz k + 3) ++ B) := by simp
    have e4 : A.length + rsz k + 3 = (A ++ iTo 2 e :: frd (cd k) (lh k) (A.length + 1) fr).length := by simp [hfl]; omega
    have ihh := opt_pat k hk e e0 fr m (A ++ iTo 2 e :: frd (cd k) (lh k) (A.length + 1) fr) B
    rw [← e4] at ihh
    rw [e5, e3, ihh]
    simp
theorem p54_3 (n : T27) {k : T27} (hk : Kd k) (hks : ix (ls n.Kids) 0 = some k) (d : Nat) (hd : d ≤ 255) : ∀ (m i : Nat) (L : List T52) (s fr : Nat) (O : List Nat), m + i = d → L.length + m * (rsz k + 3) ≤ 16384 → fr ≤ L.length → fr ≤ s → O.length ≤ i →
    G26r (.p54_3 n (d : Int) (i : Int) (Co L s fr) (so (intz O))) = G26r (.p54_4 (so (intz (O ++ opp (rsz k) m L.length))) ((O ++ opp (rsz k) m L.length).length : Int) 0 (Co (L ++ opts (cd k) (lh k) (rsz k) fr 0 m L.length) (if m = 0 then s else max s (fr + (dep k + 1))) fr))
  | 0, i, L, s, fr, O, h, hs, hf, hfs, hO => by
    rw [G26r.eq_11, dfi (by omega), opts, List.append_nil, if_pos rfl, opp, List.append_nil, ls_so, intz_len]
  | m + 1, i, L, s, fr, O, h, hs, hf, hfs, hO => by
    have hfl : ∀ a, (frd (cd k) (lh k) a fr).length = rsz k + 2 := fun a => by rw [frd_len hk.l]; have := clr_of hk; omega
    rw [Nat.add_mul, Nat.one_mul] at hs
    have h1 : (L ++ [ik 2]).length = L.length + 1 := by simp
    have h2 : (L ++ [ik 2] ++ frd (cd k) (lh k) (L.length + 1) fr).length = L.length + rsz k + 3 := by rw [List.length_append, h1, hfl]; omega
    have e0 : ls (some [(L.length : Int)]) = intz [L.length] := rfl
    rw [G26r.eq_11, dti (by omega), f27 L s fr _ (by omega), sm, if_pos (by rw [ls_so]; simp [intz, ls]; omega), hks, sm, p59_f hk (L ++ [ik 2]) s fr (by rw [h1]; omega) (by rw [h1]; omega) hfs, sm, h1, e0, sapp_so, wn1 i (by omega)]
    have e4 : intz O ++ intz [L.length] = intz (O ++ [L.length]) := by simp [intz]
    rw [e4, p54_3 n hk hks d hd m (i + 1) _ _ fr _ (by omega) (by rw [h2]; omega) (by rw [h2]; omega) (by omega) (by simp; omega), h2, opp, opts, if_neg (by omega : ¬ m + 1 = 0)]
    have e : (if m = 0 then max s (fr + (dep k + 1)) else max (max s (fr + (dep k + 1))) (fr + (dep k + 1))) = max s (fr + (dep k + 1)) := by split <;> omega
    rw [e]
    have e7 : L ++ [ik 2] ++ frd (cd k) (lh k) (L.length + 1) fr ++ opts (cd k) (lh k) (rsz k) fr 0 m (L.length + rsz k + 3) = L ++ iTo 2 ((0 : Nat) : Int) :: (frd (cd k) (lh k) (L.length + 1) fr ++ opts (cd k) (lh k) (rsz k) fr 0 m (L.length + rsz k + 3)) := by simp
    have e8 : O ++ [L.length] ++ opp (rsz k) m (L.length + rsz k + 3) = O ++ L.length :: opp (rsz k) m (L.length + rsz k + 3) := by simp
    rw [e7, e8]
theorem p54_2 (n : T27) {k : T27} (hk : Kd k) (hks : ix (ls n.Kids) 0 = some k) (mn : Nat) (hmn : n.Min = mn) (hmm : mn ≤ 255 ∧ (n.Max = -1 ∨ (mn : Int) ≤ n.Max ∧ n.Max ≤ 255)) (L : List T52) (s fr : Nat) (h : L.length + (if n.Max = -1 then rsz k + 4 else (n.Max - n.Min).toNat * (rsz k + 3)) ≤ 16384) (hf : fr ≤ L.length) (hfs : fr ≤ s) :
    G26r (.p54_2 n (Co L s fr)) = some (Co (L ++ if n.Max = -1 then iTo 2 ((L.length + rsz k + 4 : Nat) : Int) :: (frd (cd k) (lh k) (L.length + 1) fr ++ [iTo 3 (L.length : Int)]) else opts (cd k) (lh k) (rsz k) fr (L.length + (n.Max - n.Min).toNat * (rsz k + 3)) (n.Max - n.Min).toNat L.length) (if n.Max = -1 ∨ n.Min < n.Max then max s (fr + (dep k + 1)) else s) fr) := by
  have hfl : ∀ a, (frd (cd k) (lh k) a fr).length = rsz k + 2 := fun a => by rw [frd_len hk.l]; have := clr_of hk; omega
  rw [G26r.eq_10]
  by_cases hx : n.Max = -1
  · rw [if_pos hx] at h
    have h1 : (L ++ [ik 2]).length = L.length + 1 := by simp
    have h2 : (L ++ [ik 2] ++ frd (cd k) (lh k) (L.length + 1) fr).length = L.length + rsz k + 3 := by rw [List.length_append, h1, hfl]; omega
    rw [eti hx, if_pos hx, if_pos (.inl hx), f27 L s fr _ (by omega), sm, hks, sm, p59_f hk (L ++ [ik 2]) s fr (by rw [h1]; omega) (by rw [h1]; omega) hfs, sm, h1, f27 _ _ _ _ (by rw [h2]; omega), sm, co_code]
    have e2 : L ++ [ik 2] ++ frd (cd k) (lh k) (L.length + 1) fr ++ [iTo 3 (L.length : Int)] = L ++ ik 2 :: (frd (cd k) (lh k) (L.length + 1) fr ++ [iTo 3 (L.length : Int)]) := by simp
    have e3 : (L ++ ik 2 :: (frd (cd k) (lh k) (L.length + 1) fr ++ [iTo 3 (L.length : Int)])).length = L.length + rsz k + 4 := by rw [List.length_append, List.length_cons, List.length_append, hfl]; simp; omega
    simp only [e2]
    rw [ixs (get_mid L _ (ik 2)), sm, pat_co _ _ (get_mid L _ (ik 2)), e3, pat_mid]
  · obtain ⟨d, hd⟩ : ∃ d : Nat, n.Max - n.Min = d := ⟨(n.Max - n.Min).toNat, by omega⟩
    rw [if_neg hx, hd, Int.toNat_natCast] at h
    rw [efi hx, if_neg hx, hd, wi _ (by omega) (by omega), Int.toNat_natCast]
    have h3 := p54_3 n hk hks d (by omega) d 0 L s fr [] (by omega) h hf hfs (by simp)
    have h3' : G26r (.p54_3 n (d : Int) 0 (Co L s fr) none) = _ := h3
    have hol : (opts (cd k) (lh k) (rsz k) fr 0 d L.length).length = d * (rsz k + 3) := opts_len hk.l _ _ _ (clr_of hk).symm d _
    have hlen : (L ++ opts (cd k) (lh k) (rsz k) fr 0 d L.length).length = L.length + d * (rsz k + 3) := by rw [List.length_append, hol]
    have hpl := opp_len (rsz k) d L.length
    have h4 := p54_4 (opp (rsz k) d L.length) (by omega) (opp (rsz k) d L.length).length 0 (L ++ opts (cd k) (lh k) (rsz k) fr 0 d L.length) (if d = 0 then s else max s (fr + (dep k + 1))) fr (by omega) (fun p hp => by rw [hlen]; exact opp_lt _ _ _ p hp)
    have h5 := opt_pat k hk (L.length + d * (rsz k + 3)) 0 fr d L []
    rw [List.append_nil, List.append_nil] at h5
    rw [h3', List.nil_append]
    have h4' : G26r (.p54_4 (so (intz (opp (rsz k) d L.length))) ((opp (rsz k) d L.length).length : Int) 0 (Co (L ++ opts (cd k) (lh k) (rsz k) fr 0 d L.length) (if d = 0 then s else max s (fr + (dep k + 1))) fr)) = _ := h4
    rw [h4', List.drop_zero, hlen, h5]
    have e : (if d = 0 then s else max s (fr + (dep k + 1))) = if n.Max = -1 ∨ n.Min < n.Max then max s (fr + (dep k + 1)) else s := by
      by_cases h0 : d = 0
      · rw [if_pos h0, if_neg (by omega)]
      · rw [if_neg h0, if_pos (by omega)]
    rw [e]
theorem compile : ∀ (n : T27) (b : Nat), cnt n ≤ 100000 → good n b → Pn n := by
  intro n
  induction n using tree_ind with
  | h n ih =>
    intro b hc hg L s fr hs hf hfs
    have hcl := cnt_eq n
    have hlen := cntl_len (ls n.Kids)
    have hln := cd_len n b hc hg
    rw [good_eq] at hg
    have ih' : ∀ k ∈ ls n.Kids, Kd k := fun k hk => by
      obtain ⟨b', hb'⟩ := goodl_mem hg.2 hk
      have := cnt_kid hk
      exact ⟨ih k hk b' (by omega) hb', cd_len k b' (by omega) hb', (f38 (by omega) hb').1, clr_len (by omega) hb'⟩
    have ihp : ∀ k ∈ ls n.Kids, Pn k ∧ Ln k := fun k hk => ⟨(ih' k hk).p, (ih' k hk).l⟩
    rw [G26r.eq_1]
    unfold F39
    rw [sm, cd_eq, dep_eq]
    rw [sz_eq] at hs
    have nok : ∀ (h : (ls n.Kids).length = 0), depl (ls n.Kids) = 0 := fun h => by rw [List.eq_nil_of_length_eq_zero h, depl]
    rcases pl_kids hg.1.1 with ⟨h, hk⟩ | ⟨h, hm, hk⟩ | ⟨h, hk⟩ | ⟨h, hk⟩
    · rcases h with h | h
      · simp (config := {decide := true}) only [h, if_true, if_false] at hs ⊢
        have := p51 n (by omega) ihp (ls n.Kids).length 0 L s fr (by omega) (by rw [List.drop_zero]; exact hs) hf hfs
        have this' : G26r (.p51_1 n.Kids ((ls n.Kids).length : Int) 0 (Co L s fr)) = _ := this
        rw [G26r.eq_2, this', sm, List.drop_zero]
      · simp (config := {decide := true}) only [h, if_true, if_false] at hs ⊢
        obtain ⟨F, k, hFk⟩ : ∃ F k, ls n.Kids = F ++ [k] := ⟨_, _, (List.dropLast_concat_getLast (by intro e; rw [e] at hk; simp at hk)).symm⟩
        obtain ⟨K, hK⟩ : ∃ K, n.Kids = some K := by
          cases e : n.Kids with
          | none => rw [e] at hk; simp [ls] at hk
          | some K => exact ⟨K, rfl⟩
        have hKl : K = F ++ [k] := by rw [hK] at hFk; exact hFk
        have hFl : (ls n.Kids).length = F.length + 1 := by rw [hFk]; simp
        have hcut : scut n.Kids 0 (IntKind.wrap .i64 (((ls n.Kids).length : Int) - 1)) = some (some F) := by
          rw [wm1 _ (by omega) (by omega), hFl, hK]
          simp only [scut]
          rw [if_pos (by rw [hKl]; simp; omega), hKl]
          simp
        have hixk : ix (ls n.Kids) (IntKind.wrap .i64 (((ls n.Kids).length : Int) - 1)) = some k := by
          rw [wm1 _ (by omega) (by omega), hFl, hFk]
          exact ixs (by simp)
        have hkm : k ∈ ls n.Kids := by rw [hFk]; simp
        have hFm : ∀ x ∈ F, Pn x ∧ Ln x := fun x hx => ihp x (by rw [hFk]; simp [hx])
        rw [hFl, hFk, szl_app] at hs
        have hal := alf_len F (fun x hx => (hFm x hx).2) 0 L.length fr
        have hL2 : (L ++ alf F 0 L.length fr).length = L.length + szl F + 2 * F.length := by rw [List.length_append, hal]; omega
        have h1 := p53_1 n (IntKind.wrap .i64 (((ls n.Kids).length : Int) - 1)) (some F) F rfl (by omega) hFm F.length 0 L s fr [] (by omega) (by rw [List.drop_zero]; omega) hf hfs (by simp)
        rw [List.drop_zero, List.nil_append] at h1
        have h1' : G26r (.p53_1 n (IntKind.wrap .i64 (((ls n.Kids).length : Int) - 1)) (some F) ((ls (some F)).length : Int) 0 (Co L s fr) none) = _ := h1
        rw [G26r.eq_5, hcut, sm, h1', hixk, sm, (ihp k hkm).1 (L ++ alf F 0 L.length fr) _ fr (by rw [hL2]; omega) (by rw [hL2]; omega) (by omega), sm, hL2]
        have hlk := (ihp k hkm).2 (L.length + szl F + 2 * F.length) fr
        have hC : (L ++ alf F 0 L.length fr ++ cd k (L.length + szl F + 2 * F.length) fr).length = L.length + szl F + 2 * F.length + sz k := by rw [List.length_append, hL2, hlk]
        have h2 := p53_2 (jps F L.length) (by rw [jps_len]; omega) (jps F L.length).length 0 _ (max (max s (fr + depl F)) (fr + dep k)) fr (by omega) (fun p hp => by rw [hC]; have := jps_lt F L.length p hp; omega)
        have h2' : G26r (.p53_2 (so (intz (jps F L.length))) ((jps F L.length).length : Int) 0 (Co (L ++ alf F 0 L.length fr ++ cd k (L.length + szl F + 2 * F.length) fr) (max (max s (fr + depl F)) (fr + dep k)) fr)) = _ := h2
        rw [h2', sm, List.drop_zero, hC, List.append_assoc, alf_pat _ _ _ F (fun x hx => (hFm x hx).2), hFk, all_front, depl_app, szl_app]
        have e1 : max (max s (fr + depl F)) (fr + dep k) = max s (fr + max (depl F) (dep k)) := by omega
        have e2 : L.length + (szl F + sz k) + 2 * ((F ++ [k]).length - 1) = L.length + szl F + 2 * F.length + sz k := by simp; omega
        rw [e1, e2]
    · simp (config := {decide := true}) only [h, if_true, if_false] at hs ⊢
      obtain ⟨k, hk⟩ : ∃ k, ls n.Kids = [k] := List.length_eq_one_iff.1 hk
      have hkd := ih' k (by simp [hk])
      have hks : ix (ls n.Kids) 0 = some k := by rw [hk]; rfl
      have e1 : szl [k] = sz k := by rw [szl, szl]; rfl
      have e2 : gcntl [k] = gcnt k := by rw [gcntl, gcntl]; rfl
      have e3 : depl [k] = dep k := by rw [depl, depl]; omega
      rw [hk, e1, e2] at hs
      have hs' : L.length + (n.Min.toNat * rsz k + if n.Max = -1 then rsz k + 4 else (n.Max - n.Min).toNat * (rsz k + 3)) ≤ 16384 := hs
      obtain ⟨mn, hmn⟩ := nat_of' hm.1
      have hmt : n.Min.toNat = mn := by omega
      rw [hmt] at hs'
      have hml := mins_len hkd.l (rsz k) fr (clr_of hkd).symm mn L.length
      have h1 := p54_1 n hkd hks mn (by omega) mn 0 L s fr (by omega) (by omega) hf hfs
      have h1' : G26r (.p54_1 n (mn : Int) 0 (Co L s fr)) = _ := h1
      have hL2 : (L ++ mins (cd k) (lh k) (rsz k) fr mn L.length).length = L.length + mn * rsz k := by rw [List.length_append, hml]
      have h2 := p54_2 n hkd hks mn hmn (by omega) (L ++ mins (cd k) (lh k) (rsz k) fr mn L.length) (if mn = 0 then s else max s (fr + dep k)) fr (by rw [hL2]; omega) (by rw [hL2]; omega) (by split <;> omega)
      rw [G26r.eq_8, hmn, h1', h2, sm, hL2, hk, rpl, ← hmn]
      unfold repc
      rw [hmt, e3, List.append_assoc]
      have e4 : (if n.Max = -1 ∨ n.Min < n.Max then max (if mn = 0 then s else max s (fr + dep k)) (fr + (dep k + 1)) else if mn = 0 then s else max s (fr + dep k)) = max s (fr + if n.Max = -1 ∨ n.Min < n.Max then dep k + 1 else if 0 < n.Min then dep k else 0) := by
        by_cases c1 : n.Max = -1 ∨ n.Min < n.Max
        · rw [if_pos c1, if_pos c1]; split <;> omega
        · rw [if_neg c1, if_neg c1]
          by_cases c2 : mn = 0
          · rw [if_pos c2, if_neg (by omega)]; omega
          · rw [if_neg c2, if_pos (by omega)]
      rw [e4]
    · simp (config := {decide := true}) only [h, if_true, if_false] at hs ⊢
      obtain ⟨k, hk⟩ : ∃ k, ls n.Kids = [k] := List.length_eq_one_iff.1 hk
      have hkd := ih' k (by simp [hk])
      have hks : ix (ls n.Kids) 0 = some k := by rw [hk]; rfl
      have e1 : szl [k] = sz k := by rw [szl, szl]; rfl
      have e3 : depl [k] = dep k := by rw [depl, depl]; omega
      rw [hk, e1] at hs
      have h1 : (L ++ [iGr 4 n.Group]).length = L.length + 1 := by simp
      rw [G26r.eq_4, f27 L s fr _ (by omega), sm, hks, sm, hkd.p (L ++ [iGr 4 n.Group]) s fr (by rw [h1]; omega) (by rw [h1]; omega) hfs, sm, f27 _ _ _ _ (by rw [List.length_append, hkd.l, h1]; omega), sm, sm, h1, hk, chl, e3]
      simp
    · have hd := nok hk
      have e0 : max s (fr + depl (ls n.Kids)) = s := by rw [hd]; omega
      rcases h with h | h | h | h | h <;> simp (config := {decide := true}) only [h, if_true, if_false, e0] at hs ⊢
      · unfold F46; rw [sm, List.append_nil]
      · unfold F47; rw [f27 L s fr _ (by omega), sm, sm]
      · unfold F50; rw [f27 L s fr _ (by omega), sm, sm]
      · unfold F48; rw [f27 L s fr _ (by omega), sm, sm]
      · unfold F49; rw [f27 L s fr _ (by omega), sm, sm]
/-- The program of a tree. -/
noncomputable def prg (n : T27) : T34 := { Groups := (gcnt n : Int), Slots := (dep n : Int), Code := some (cd n 0 0 ++ [ik 12]) }
theorem f10 (n : T27) : ∃ r : T34 × Int, F10 n = some r ∧ ∃ w : Int × Int, F9 n = some w ∧ r.2 = w.2 ∧ (w.2 ≠ 0 → r.1 = { Groups := 0, Slots := 0, Code := none }) ∧ (w.2 = 0 → good n 0 ∧ cnt n ≤ 8192 ∧ sz n < 16384 ∧ w.1 = ((sz n + 1 : Nat) : Int) ∧ r.1 = prg n) := by
  obtain ⟨w, hw, u, hu, h1, h2⟩ := f9 n
  unfold F10
  rw [hw, sm]
  by_cases h0 : w.2 = 0
  · have hu0 : u = 0 := by
      by_cases e : u = 0
      · exact e
      · have := h1 e; rw [this] at h0; exact h0
    obtain ⟨hg, hc, hwe⟩ := h2 hu0
    have hsz : sz n < 16384 := by
      by_cases e : sz n < 16384
      · exact e
      · rw [if_neg e] at hwe; rw [hwe] at h0; cases h0
    rw [if_pos hsz] at hwe
    have hcp := compile n 0 (by omega) hg [] 0 0 (by simp; omega) (by simp) (by omega)
    have hcp' : F26 ({ code := (none : Sl T52), slots := 0, free := 0 } : T65) n = _ := hcp
    have hl := cd_len n 0 (by omega) hg 0 0
    rw [nfi h0, hcp', sm, List.nil_append, f27 _ _ _ _ (by rw [List.length_nil, hl]; omega), sm, f28 n hc, sm]
    refine ⟨_, rfl, w, rfl, h0.symm, fun h => absurd h0 h, fun _ => ⟨hg, hc, hsz, by rw [hwe], ?_⟩⟩
    unfold prg Co
    simp only [List.length_nil, Nat.zero_add, Nat.zero_max]
    congr 1
    cases cd n 0 0 <;> rfl
  · rw [nti h0]
    exact ⟨_, rfl, w, rfl, rfl, fun _ => rfl, fun h => absurd h h0⟩
end Go.Proofs.Ytjbafmnocopofaa
end
section
/-
  Nfa: which programs are right, by the program and by the reference; which have back-references; the fault of a program.
-/


namespace Go.Proofs.Ytjbafmnocopofaa
open Go AW
set_option linter.unusedVariables false
set_option linter.unusedSimpArgs false
set_option maxHeartbeats 4000000
/-- Is an instruction right, but for its being the last one? -/
def fit (p : T34) (x : T52) : Bool :=
  if x.Kind = 1 then decide (({ Kind := x.Kind, Set := x.Set, To := 0, Group := 0, Last := 0, Slot := 0 } : T52) = x)
  else if x.Kind = 2 ∨ x.Kind = 3 then decide (({ Kind := x.Kind, Set := Arr.rep 4 0, To := x.To, Group := 0, Last := 0, Slot := 0 } : T52) = x) && decide (0 ≤ x.To ∧ x.To < ((ls p.Code).length : Int))
  else if x.Kind = 4 ∨ x.Kind = 5 ∨ x.Kind = 9 then decide (({ Kind := x.Kind, Set := Arr.rep 4 0, To := 0, Group := x.Group, Last := 0, Slot := 0 } : T52) = x) && decide (1 ≤ x.Group ∧ x.Group ≤ p.Groups)
  else if x.Kind = 6 then decide (({ Kind := x.Kind, Set := Arr.rep 4 0, To := 0, Group := x.Group, Last := x.Last, Slot := 0 } : T52) = x) && decide (1 ≤ x.Group ∧ x.Group ≤ p.Groups ∧ x.Group ≤ x.Last ∧ x.Last ≤ p.Groups)
  else if x.Kind = 7 ∨ x.Kind = 8 then decide (({ Kind := x.Kind, Set := Arr.rep 4 0, To := 0, Group := 0, Last := 0, Slot := x.Slot } : T52) = x) && decide (0 ≤ x.Slot ∧ x.Slot < p.Slots)
  else if x.Kind = 10 ∨ x.Kind = 11 ∨ x.Kind = 12 then decide (({ Kind := x.Kind, Set := Arr.rep 4 0, To := 0, Group := 0, Last := 0, Slot := 0 } : T52) = x)
  else false
def fits (p : T34) : Nat → List T52 → Bool
  | _, [] => true
  | i, x :: l => (fit p x && ((x.Kind == 12) == decide (i + 1 = (ls p.Code).length))) && fits p (i + 1) l
/-- Is a program right? -/
def rp (p : T34) : Bool := decide (0 ≤ p.Groups ∧ p.Groups ≤ 99 ∧ 0 ≤ p.Slots ∧ p.Slots ≤ 16384 ∧ 1 ≤ (ls p.Code).length ∧ (ls p.Code).length ≤ 16384) && fits p 0 (ls p.Code)
theorem kinds (k : Int) : k = 1 ∨ k = 2 ∨ k = 3 ∨ k = 4 ∨ k = 5 ∨ k = 6 ∨ k = 7 ∨ k = 8 ∨ k = 9 ∨ k = 10 ∨ k = 11 ∨ k = 12 ∨ (k ≠ 1 ∧ k ≠ 2 ∧ k ≠ 3 ∧ k ≠ 4 ∧ k ≠ 5 ∧ k ≠ 6 ∧ k ≠ 7 ∧ k ≠ 8 ∧ k ≠ 9 ∧ k ≠ 10 ∧ k ≠ 11 ∧ k ≠ 12) := by omega
theorem bite {α : Type} (c : Bool) (x y : α) : (if (!c) = true then x else y) = if c = true then y else x := by cases c <;> rfl
theorem g11_2 (p : T34) (n i : Int) (ok : Bool) (t : Sl T52) (a b : Int) (x y : T52) : G11 (.p2 p n i ok t a b x y) = if (ok && decide (y = x) && ((x.Kind == 12) == (i == IntKind.wrap .i64 (n - 1)))) = true then G11 (.p1 p n t a (IntKind.wrap .i64 (b + 1))) else some false := by
  rw [G11.eq_2, bite, bite, bite]
  cases ok <;> cases decide (y = x) <;> cases ((x.Kind == 12) == (i == IntKind.wrap .i64 (n - 1))) <;> rfl
theorem dec_beq (i n : Nat) : ((i : Int) == (n : Int)) = decide (i = n) := by
  rw [Bool.eq_iff_iff, beq_iff_eq, decide_eq_true_eq]; omega
theorem g11_3 (p : T34) (n i : Int) (t : Sl T52) (a b : Int) (x y : T52) : G11 (.p3 p n i t a b x y) = G11 (.p2 p n i (decide (0 ≤ x.To ∧ x.To < n)) t a b x { y with To := x.To }) := by
  rw [G11.eq_3]
  by_cases h : 0 ≤ x.To
  · rw [dti h]; simp [h]
  · rw [dfi h]; simp [h]
theorem g11_4 (p : T34) (n i : Int) (t : Sl T52) (a b : Int) (x y : T52) : G11 (.p4 p n i t a b x y) = G11 (.p2 p n i (decide (1 ≤ x.Group ∧ x.Group ≤ p.Groups)) t a b x { y with Group := x.Group }) := by
  rw [G11.eq_4]
  by_cases h : 1 ≤ x.Group
  · rw [dti h]; simp [h]
  · rw [dfi h]; simp [h]
theorem g11_5 (p : T34) (n i : Int) (t : Sl T52) (a b : Int) (x y : T52) : G11 (.p5 p n i t a b x y) = G11 (.p2 p n i (decide (0 ≤ x.Slot ∧ x.Slot < p.Slots)) t a b x { y with Slot := x.Slot }) := by
  rw [G11.eq_5]
  by_cases h : 0 ≤ x.Slot
  · rw [dti h]; simp [h]
  · rw [dfi h]; simp [h]
theorem and3 {α : Type} {a b c : Bool} {x y : α} : (if (a && b && c) = true then x else y) = if (b && a && c) = true then x else y := by rw [Bool.and_comm a b]
theorem g11_1 (p : T34) (n : Nat) (hn : n < 100000) (hn1 : n = (ls p.Code).length) (i : Nat) (hi : i < n) (x : T52) (hx : (ls p.Code)[i]? = some x) :
    G11 (.p1 p (n : Int) p.Code (n : Int) (i : Int)) = if (fit p x && ((x.Kind == 12) == decide (i + 1 = n))) = true then G11 (.p1 p (n : Int) p.Code (n : Int) ((i + 1 : Nat) : Int)) else some false := by
  have e : ((i : Int) == IntKind.wrap .i64 ((n : Int) - 1)) = decide (i + 1 = n) := by
    rw [wi _ (by omega) (by omega), Bool.eq_iff_iff, beq_iff_eq, decide_eq_true_eq]; omega
  rw [G11.eq_1, dti (by omega), ixs hx, sm, ← wn1 i (by omega), ← e]
  subst hn1
  unfold fit
  simp only [g11_3, g11_4, g11_5, g11_2]
  rcases kinds x.Kind with h | h | h | h | h | h | h | h | h | h | h | h | h
  case inr.inr.inr.inr.inr.inl =>
    simp (config := {decide := true}) only [h, if_true, if_false, Bool.true_and, true_or, or_true, or_false, false_or]
    by_cases h1 : 1 ≤ x.Group
    · by_cases h2 : x.Group ≤ p.Groups
      · by_cases h3 : x.Group ≤ x.Last
        · rw [dti h1, dti h2, dti h3]; simp [h1, h2, h3, Bool.and_comm, Bool.and_assoc, Bool.and_left_comm]
        · rw [dti h1, dti h2, dfi h3]; simp [h1, h2, h3]
      · rw [dti h1, dfi h2]; simp [h1, h2]
    · rw [dfi h1]; simp [h1]
  all_goals first
    | (simp (config := {decide := true}) only [h, if_true, if_false, Bool.true_and, true_or, or_true, or_false, false_or]; done)
    | (simp (config := {decide := true}) only [h, if_true, if_false, Bool.true_and, true_or, or_true, or_false, false_or]; rw [and3]; done)
    | (obtain ⟨a1, a2, a3, a4, a5, a6, a7, a8, a9, b1, b2, b3⟩ := h
       have e1 : ∀ k : Int, x.Kind ≠ k → (x.Kind == k) = false := fun k h => by simpa using h
       simp (config := {decide := true}) only [e1 _ a1, e1 _ a2, e1 _ a3, e1 _ a4, e1 _ a5, e1 _ a6, e1 _ a7, e1 _ a8, e1 _ a9, e1 _ b1, e1 _ b2, e1 _ b3, a1, a2, a3, a4, a5, a6, a7, a8, a9, b1, b2, b3, if_false, or_self, Bool.false_and, Bool.false_eq_true])
    | skip
theorem g11 (p : T34) (hn : (ls p.Code).length < 100000) : ∀ (k i : Nat), i + k = (ls p.Code).length → G11 (.p1 p ((ls p.Code).length : Int) p.Code ((ls p.Code).length : Int) (i : Int)) = some (fits p i ((ls p.Code).drop i))
  | 0, i, h => by
    rw [G11.eq_1, dfi (by omega), List.drop_of_length_le (by omega)]; rfl
  | k + 1, i, h => by
    obtain ⟨x, hx⟩ := get_ex (ls p.Code) (i := i) (by omega)
    rw [g11_1 p _ hn rfl i (by omega) x hx, g11 p hn k (i + 1) (by omega), drop_cons hx, fits]
    cases fit p x && ((x.Kind == 12) == decide (i + 1 = (ls p.Code).length)) <;> rfl
theorem f11 (p : T34) : F11 p = some (rp p) := by
  unfold F11 rp
  by_cases h1 : p.Groups < 0
  · rw [dti h1, decide_eq_false (by omega)]; rfl
  rw [dfi h1]
  by_cases h2 : p.Groups > 99
  · rw [dti h2, decide_eq_false (by omega)]; rfl
  rw [dfi h2]
  by_cases h3 : p.Slots < 0
  · rw [dti h3, decide_eq_false (by omega)]; rfl
  rw [dfi h3]
  by_cases h4 : p.Slots > 16384
  · rw [dti h4, decide_eq_false (by omega)]; rfl
  rw [dfi h4]
  by_cases h5 : ((ls p.Code).length : Int) < 1
  · rw [dti h5, decide_eq_false (by omega)]; rfl
  rw [dfi h5]
  by_cases h6 : ((ls p.Code).length : Int) > 16384
  · rw [dti h6, decide_eq_false (by omega)]; rfl
  rw [dfi h6, decide_eq_true (by omega)]
  have := g11 p (by omega) (ls p.Code).length 0 (by omega)
  simpa using this
/-- Has it a back-reference? -/
def hb (l : List T52) : Bool := l.any fun x => x.Kind == 9
theorem g60 (s : Sl T52) (hn : (ls s).length < 100000) : ∀ (k i : Nat), i + k = (ls s).length → ∃ r : Int, G60 (.p1 s ((ls s).length : Int) (i : Int)) = some r ∧ decide (r ≥ 0) = hb ((ls s).drop i)
  | 0, i, h => by
    rw [G60.eq_1, dfi (by omega), List.drop_of_length_le (by omega)]; exact ⟨_, rfl, rfl⟩
  | k + 1, i, h => by
    obtain ⟨x, hx⟩ := get_ex (ls s) (i := i) (by omega)
    obtain ⟨r, h1, h2⟩ := g60 s hn k (i + 1) (by omega)
    rw [G60.eq_1, dti (by omega), ixs hx, sm, F56, sm, drop_cons hx]
    by_cases e : x.Kind = 9
    · rw [if_pos (by simp [e])]
      exact ⟨_, rfl, by simp [hb, e]⟩
    · rw [if_neg (by simp [e]), wn1 i (by omega), h1]
      exact ⟨_, rfl, by rw [h2]; simp [hb, e]⟩
theorem f42 (p : T34) (hn : (ls p.Code).length < 100000) : F42 p = some (hb (ls p.Code)) := by
  unfold F42 F55 F60
  obtain ⟨r, h1, h2⟩ := g60 p.Code hn (ls p.Code).length 0 (by omega)
  have h1' : G60 (.p1 p.Code ((ls p.Code).length : Int) 0) = some r := h1
  rw [h1', sm, sm, h2]; rfl
theorem rp_len {p : T34} (h : rp p = true) : 1 ≤ (ls p.Code).length ∧ (ls p.Code).length ≤ 16384 := by
  simp only [rp, Bool.and_eq_true, decide_eq_true_eq] at h
  exact ⟨h.1.2.2.2.2.1, h.1.2.2.2.2.2⟩
/-- The fault of a program. -/
def flt (p : T34) : Int := if rp p = true then (if hb (ls p.Code) = true then 101 else 0) else 100
theorem f32 (p : T34) : F32 p = some (flt p) := by
  unfold F32 flt
  rw [f11, sm, bite]
  by_cases h : rp p = true
  · have := rp_len h
    rw [if_pos h, if_pos h, f42 p (by omega), sm]
    cases hb (ls p.Code) <;> rfl
  · rw [if_neg h, if_neg h]
/-- What is known of a right program's instructions. -/
theorem fits_at (p : T34) : ∀ (l : List T52) (k i : Nat) (x : T52), fits p k l = true → l[i]? = some x → fit p x = true ∧ (x.Kind = 12 ↔ k + i + 1 = (ls p.Code).length)
  | [], k, i, x, _, h => by simp at h
  | y :: l, k, 0, x, hf, h => by
    simp at h
    subst h
    simp only [fits, Bool.and_eq_true, beq_iff_eq] at hf
    refine ⟨hf.1.1, ?_⟩
    have := hf.1.2
    rw [Bool.eq_iff_iff, decide_eq_true_eq, beq_iff_eq] at this
    simpa using this
  | y :: l, k, i + 1, x, hf, h => by
    simp only [fits, Bool.and_eq_true] at hf
    have := fits_at p l (k + 1) i x hf.2 (by simpa using h)
    rw [show k + (i + 1) + 1 = k + 1 + i + 1 by omega]
    exact this
theorem rp_at {p : T34} (h : rp p = true) {i : Nat} {x : T52} (hx : (ls p.Code)[i]? = some x) : fit p x = true ∧ (x.Kind = 12 ↔ i + 1 = (ls p.Code).length) := by
  simp only [rp, Bool.and_eq_true] at h
  have := fits_at p _ 0 i x h.2 hx
  simpa using this
end Go.Proofs.Ytjbafmnocopofaa
end
section
/-
  Nfa: what Compile lays out is right.
-/


namespace Go.Proofs.Ytjbafmnocopofaa
open Go AW
set_option linter.unusedVariables false
set_option linter.unusedSimpArgs false
set_option maxHeartbeats 4000000
inductive Okx (hi G S : Nat) : T52 → Prop
  | set (s : Arr 4 Int) : Okx hi G S (iSet s)
  | to (k : Int) (t : Nat) : k = 2 ∨ k = 3 → t ≤ hi → Okx hi G S (iTo k (t : Int))
  | gr (k g : Int) : k = 4 ∨ k = 5 ∨ k = 9 → 1 ≤ g → g ≤ (G : Int) → Okx hi G S (iGr k g)
  | cl (g l : Int) : 1 ≤ g → g ≤ l → l ≤ (G : Int) → Okx hi G S (iCl g l)
  | sl (k : Int) (s : Nat) : k = 7 ∨ k = 8 → s < S → Okx hi G S (iSl k (s : Int))
  | be (k : Int) : k = 10 ∨ k = 11 → Okx hi G S (ik k)
theorem Okx.mono {hi G S hi' G' S' : Nat} {x : T52} (h : Okx hi G S x) (h1 : hi ≤ hi') (h2 : G ≤ G') (h3 : S ≤ S') : Okx hi' G' S' x := by
  cases h with
  | set s => exact .set s
  | to k t a b => exact .to k t a (by omega)
  | gr k g a b c => exact .gr k g a b (by omega)
  | cl g l a b c => exact .cl g l a b (by omega)
  | sl k s a b => exact .sl k s a (by omega)
  | be k a => exact .be k a
def AllOk (hi G S : Nat) (l : List T52) : Prop := ∀ x ∈ l, Okx hi G S x
theorem AllOk.nil {hi G S : Nat} : AllOk hi G S [] := fun x h => by simp at h
theorem AllOk.cons {hi G S : Nat} {x : T52} {l : List T52} (h : Okx hi G S x) (h' : AllOk hi G S l) : AllOk hi G S (x :: l) := fun y hy => by
  rcases List.mem_cons.1 hy with rfl | hy
  · exact h
  · exact h' y hy
theorem AllOk.app {hi G S : Nat} {l m : List T52} (h : AllOk hi G S l) (h' : AllOk hi G S m) : AllOk hi G S (l ++ m) := fun y hy => by
  rcases List.mem_append.1 hy with hy | hy
  · exact h y hy
  · exact h' y hy
theorem AllOk.mono {hi G S hi' G' S' : Nat} {l : List T52} (h : AllOk hi G S l) (h1 : hi ≤ hi') (h2 : G ≤ G') (h3 : S ≤ S') : AllOk hi' G' S' l := fun x hx => (h x hx).mono h1 h2 h3
def Ak (b : Nat) (k : T27) : Prop := ∀ a fr, AllOk (a + sz k) (b + gcnt k) (fr + dep k) (cd k a fr)
theorem cdl_ok (P : ∀ k b, Ak b k ∨ True) : ∀ (l : List T27) (b : Nat), (∀ k ∈ l, ∀ b, good k b → Ak b k) → goodl l b → ∀ a fr, AllOk (a + szl l) (b + gcntl l) (fr + depl l) (cdl l a fr)
  | [], b, _, _, a, fr => by rw [cdl]; exact .nil
  | x :: l, b, h, hg, a, fr => by
    rw [goodl] at hg
    rw [cdl, szl, gcntl, depl]
    exact (h x (by simp) b hg.1 a fr |>.mono (by omega) (by omega) (by omega)).app ((cdl_ok P l (b + gcnt x) (fun k hk => h k (by simp [hk])) hg.2 (a + sz x) fr).mono (by omega) (by omega) (by omega))
theorem all_ok : ∀ (l : List T27) (b : Nat), (∀ k ∈ l, ∀ b, good k b → Ak b k) → goodl l b → ∀ (e a fr : Nat), a + szl l + 2 * (l.length - 1) ≤ e → AllOk e (b + gcntl l) (fr + depl l) (all l e a fr)
  | [], b, _, _, e, a, fr, he => by rw [all]; exact .nil
  | [x], b, h, hg, e, a, fr, he => by
    rw [goodl] at hg
    have e1 : szl [x] = sz x := by simp [szl]
    rw [e1] at he
    rw [all, if_pos (show ([] : List T27).isEmpty = true from rfl), gcntl, depl]
    exact (h x (by simp) b hg.1 a fr).mono (by omega) (by omega) (by omega)
  | x :: y :: l, b, h, hg, e, a, fr, he => by
    rw [goodl] at hg
    have e1 : szl (x :: y :: l) = sz x + szl (y :: l) := by rw [szl]
    have e2 : gcntl (x :: y :: l) = gcnt x + gcntl (y :: l) := by rw [gcntl]
    have e3 : depl (x :: y :: l) = max (dep x) (depl (y :: l)) := by rw [depl]
    simp only [List.length_cons] at he
    rw [all, if_neg (by simp), e2, e3]
    refine .cons (.to 2 _ (.inl rfl) (by omega)) (.app ((h x (by simp) b hg.1 (a + 1) fr).mono (by omega) (by omega) (by omega)) (.cons (.to 3 _ (.inr rfl) (by omega)) ?_))
    exact (all_ok (y :: l) (b + gcnt x) (fun k hk => h k (by simp at hk ⊢; exact .inr hk)) hg.2 e (a + sz x + 2) fr (by simp only [List.length_cons]; omega)).mono (by omega) (by omega) (by omega)
section
variable {k : T27} {b : Nat} (hA : Ak b k) (hk : Kd k) (hl : lh k = (glo b (gcnt k), ghi b (gcnt k)))
include hA hk hl
theorem rnd_ok (a fr : Nat) : AllOk (a + rsz k) (b + gcnt k) (fr + dep k) (rnd (cd k) (lh k) a fr) := by
  have hr := clr_of hk
  refine .app ?_ ((hA (a + (clr (lh k)).length) fr).mono (by omega) (by omega) (by omega))
  rw [hl]
  unfold clr glo ghi
  by_cases h0 : gcnt k = 0
  · rw [if_pos h0, if_neg (by simp)]; exact .nil
  · rw [if_neg h0, if_neg h0, if_pos (show (b : Int) + 1 > 0 by omega)]
    exact .cons (.cl _ _ (by simp only; omega) (by simp only; omega) (by simp only; omega)) .nil
theorem frd_ok (a fr : Nat) : AllOk (a + rsz k + 2) (b + gcnt k) (fr + (dep k + 1)) (frd (cd k) (lh k) a fr) := by
  refine .cons (.sl 7 fr (.inl rfl) (by omega)) (.app ((rnd_ok hA hk hl (a + 1) (fr + 1)).mono (by omega) (by omega) (by omega)) (.cons (.sl 8 fr (.inr rfl) (by omega)) .nil))
theorem mins_ok (fr : Nat) : ∀ (m a : Nat), AllOk (a + m * rsz k) (b + gcnt k) (fr + dep k) (mins (cd k) (lh k) (rsz k) fr m a)
  | 0, a => by rw [mins]; exact .nil
  | m + 1, a => by
    rw [mins, Nat.add_mul, Nat.one_mul]
    exact .app ((rnd_ok hA hk hl a fr).mono (by omega) (by omega) (by omega)) ((mins_ok fr m (a + rsz k)).mono (by omega) (by omega) (by omega))
theorem opts_ok (fr e : Nat) : ∀ (m a : Nat), a + m * (rsz k + 3) ≤ e → AllOk e (b + gcnt k) (fr + (dep k + 1)) (opts (cd k) (lh k) (rsz k) fr e m a)
  | 0, a, h => by rw [opts]; exact .nil
  | m + 1, a, h => by
    rw [Nat.add_mul, Nat.one_mul] at h
    rw [opts]
    exact .cons (.to 2 e (.inl rfl) (by omega)) (.app ((frd_ok hA hk hl (a + 1) fr).mono (by omega) (by omega) (by omega)) (opts_ok fr e m (a + rsz k + 3) (by omega)))
theorem repc_ok (mn mx : Int) (h0 : 0 ≤ mn) (hm : mx = -1 ∨ mn ≤ mx) (a fr : Nat) : AllOk (a + (mn.toNat * rsz k + if mx = -1 then rsz k + 4 else (mx - mn).toNat * (rsz k + 3))) (b + gcnt k) (fr + (if mx = -1 ∨ mn < mx then dep k + 1 else if 0 < mn then dep k else 0)) (repc (cd k) (lh k) (rsz k) mn mx a fr) := by
  unfold repc
  refine .app ?_ ?_
  · by_cases hz : mn.toNat = 0
    · rw [hz, mins]; exact .nil
    · refine (mins_ok hA hk hl fr mn.toNat a).mono (by omega) (by omega) ?_
      split
      · omega
      · rw [if_pos (by omega)]; omega
  · by_cases hx : mx = -1
    · rw [if_pos hx, if_pos hx, if_pos (.inl hx)]
      refine .cons (.to 2 _ (.inl rfl) (by omega)) (.app ((frd_ok hA hk hl (a + mn.toNat * rsz k + 1) fr).mono (by omega) (by omega) (by omega)) (.cons (.to 3 _ (.inr rfl) (by omega)) .nil))
    · rw [if_neg hx, if_neg hx]
      by_cases hz : (mx - mn).toNat = 0
      · rw [hz, opts]; exact .nil
      · rw [if_pos (by omega)]
        exact (opts_ok hA hk hl fr _ (mx - mn).toNat (a + mn.toNat * rsz k) (Nat.le_refl _)).mono (by omega) (by omega) (by omega)
end
theorem cd_ok : ∀ (n : T27) (b : Nat), cnt n ≤ 100000 → good n b → Ak b n := by
  intro n
  induction n using tree_ind with
  | h n ih =>
    intro b hc hg a fr
    have hcl := cnt_eq n
    have hgc := gcnt_eq n
    rw [good_eq] at hg
    have ih' : ∀ k ∈ ls n.Kids, ∀ b, good k b → Ak b k := fun k hk b hb => ih k hk b (by have := cnt_kid hk; omega) hb
    rw [cd_eq, dep_eq, sz_eq]
    rcases pl_kids hg.1.1 with ⟨h, hk⟩ | ⟨h, hm, hk⟩ | ⟨h, hk⟩ | ⟨h, hk⟩
    · rcases h with h | h
      · simp (config := {decide := true}) only [h, if_true, if_false, Nat.add_zero, Nat.zero_add] at hg hgc ⊢
        rw [hgc]
        exact cdl_ok (fun _ _ => .inr trivial) _ b ih' hg.2 a fr
      · simp (config := {decide := true}) only [h, if_true, if_false, Nat.add_zero, Nat.zero_add] at hg hgc ⊢
        rw [hgc, ← Nat.add_assoc]
        exact all_ok _ b ih' hg.2 _ a fr (Nat.le_refl _)
    · obtain ⟨k, hk⟩ : ∃ k, ls n.Kids = [k] := List.length_eq_one_iff.1 hk
      have hkm : k ∈ ls n.Kids := by simp [hk]
      have hck := cnt_kid hkm
      simp (config := {decide := true}) only [h, if_true, if_false, Nat.add_zero, Nat.zero_add] at hg hgc ⊢
      rw [hk, goodl, goodl] at hg
      have hgk := hg.2.1
      have hkd : Kd k := ⟨compile k b (by omega) hgk, cd_len k b (by omega) hgk, (f38 (by omega) hgk).1, clr_len (by omega) hgk⟩
      have := repc_ok (ih' k hkm b hgk) hkd (f38 (by omega) hgk).2 n.Min n.Max (by omega) (by omega) a fr
      have e1 : szl [k] = sz k := by simp [szl]
      have e2 : gcntl [k] = gcnt k := by simp [gcntl]
      have e3 : depl [k] = dep k := by simp [depl]
      rw [hgc, hk, rpl, e1, e2, e3]
      exact this
    · obtain ⟨k, hk⟩ : ∃ k, ls n.Kids = [k] := List.length_eq_one_iff.1 hk
      have hkm : k ∈ ls n.Kids := by simp [hk]
      simp (config := {decide := true}) only [h, if_true, if_false, Nat.add_zero, Nat.zero_add] at hg hgc ⊢
      rw [hk, goodl, goodl] at hg
      have hgr := (hg.1.2.1 h).1
      have e1 : szl [k] = sz k := by simp [szl]
      have e2 : gcntl [k] = gcnt k := by simp [gcntl]
      have e3 : depl [k] = dep k := by simp [depl]
      rw [hgc, hk, chl, e1, e2, e3]
      exact .cons (.gr 4 _ (.inl rfl) (by omega) (by omega)) (.app ((ih' k hkm _ hg.2.1 (a + 1) fr).mono (by omega) (by omega) (by omega)) (.cons (.gr 5 _ (.inr (.inl rfl)) (by omega) (by omega)) .nil))
    · rcases h with h | h | h | h | h <;> simp (config := {decide := true}) only [h, if_true, if_false]
      · exact .nil
      · exact .cons (.set _) .nil
      · have := hg.1.2.2 h
        exact .cons (.gr 9 _ (.inr (.inr rfl)) (by omega) (by omega)) .nil
      · exact .cons (.be 10 (.inl rfl)) .nil
      · exact .cons (.be 11 (.inr rfl)) .nil
/-! ### Bounds -/
theorem gcnt_99 : ∀ (n : T27) (b : Nat), good n b → gcnt n = 0 ∨ b + gcnt n ≤ 99 := by
  intro n
  induction n using tree_ind with
  | h n ih =>
    intro b hg
    rw [good_eq] at hg
    rw [gcnt_eq]
    have key : ∀ (l : List T27) (b : Nat), (∀ k ∈ l, ∀ b, good k b → gcnt k = 0 ∨ b + gcnt k ≤ 99) → goodl l b → gcntl l = 0 ∨ b + gcntl l ≤ 99 := by
      intro l
      induction l with
      | nil => intro b _ _; left; rw [gcntl]
      | cons x l ihl =>
        intro b h hg
        rw [goodl] at hg
        have h1 := h x (by simp) b hg.1
        have h2 := ihl (b + gcnt x) (fun k hk => h k (by simp [hk])) hg.2
        rw [gcntl]; omega
    have := key _ _ ih hg.2
    by_cases h6 : n.Kind = 6
    · have h99 := (hg.1.2.1 h6).2
      rw [if_pos h6] at this ⊢; omega
    · rw [if_neg h6] at this ⊢; omega
theorem dep_sz : ∀ (n : T27) (b : Nat), good n b → dep n ≤ sz n := by
  intro n
  induction n using tree_ind with
  | h n ih =>
    intro b hg
    rw [good_eq] at hg
    have ih' : ∀ k ∈ ls n.Kids, dep k ≤ sz k := fun k hk => by
      obtain ⟨b', hb'⟩ := goodl_mem hg.2 hk
      exact ih k hk b' hb'
    have key : ∀ (l : List T27), (∀ k ∈ l, dep k ≤ sz k) → depl l ≤ szl l := by
      intro l
      induction l with
      | nil => intro _; rw [depl, szl]; omega
      | cons x l ihl => intro h; have := h x (by simp); have := ihl fun k hk => h k (by simp [hk]); rw [depl, szl]; omega
    have hd := key _ ih'
    rw [dep_eq, sz_eq]
    rcases pl_kids hg.1.1 with ⟨h, hk⟩ | ⟨h, hm, hk⟩ | ⟨h, hk⟩ | ⟨h, hk⟩
    · rcases h with h | h <;> simp (config := {decide := true}) only [h, if_true, if_false] <;> omega
    · simp (config := {decide := true}) only [h, if_true, if_false]
      generalize (if gcntl (ls n.Kids) = 0 then 0 else 1) = c
      by_cases hx : n.Max = -1
      · rw [if_pos (.inl hx), if_pos hx]; omega
      · rw [if_neg hx]
        by_cases h1 : n.Min < n.Max
        · rw [if_pos (.inr h1)]
          have : szl (ls n.Kids) + c + 3 ≤ (n.Max - n.Min).toNat * (szl (ls n.Kids) + c + 3) := Nat.le_mul_of_pos_left _ (by omega)
          omega
        · rw [if_neg (by omega)]
          by_cases h2 : 0 < n.Min
          · rw [if_pos h2]
            have : szl (ls n.Kids) + c ≤ n.Min.toNat * (szl (ls n.Kids) + c) := Nat.le_mul_of_pos_left _ (by omega)
            omega
          · rw [if_neg h2]; omega
    · simp (config := {decide := true}) only [h, if_true, if_false]; omega
    · have : depl (ls n.Kids) = 0 := by rw [List.eq_nil_of_length_eq_zero hk, depl]
      rcases h with h | h | h | h | h <;> simp (config := {decide := true}) only [h, if_true, if_false] <;> omega
theorem okx_fit {p : T34} {hi G S : Nat} {x : T52} (h : Okx hi G S x) (h1 : hi < (ls p.Code).length) (h2 : p.Groups = (G : Int)) (h3 : p.Slots = (S : Int)) : fit p x = true ∧ x.Kind ≠ 12 := by
  unfold fit
  cases h with
  | set s => exact ⟨by simp, by show (1 : Int) ≠ 12; decide⟩
  | to k t a b => rcases a with rfl | rfl <;> refine ⟨by simp; omega, by simp⟩
  | gr k g a b c => rcases a with rfl | rfl | rfl <;> refine ⟨by simp; omega, by simp⟩
  | cl g l a b c => exact ⟨by simp; omega, by show (6 : Int) ≠ 12; decide⟩
  | sl k s a b => rcases a with rfl | rfl <;> refine ⟨by simp; omega, by simp⟩
  | be k a => rcases a with rfl | rfl <;> refine ⟨by simp, by simp⟩
theorem fits_app {p : T34} : ∀ (l : List T52) (i : Nat), (∀ x ∈ l, fit p x = true ∧ x.Kind ≠ 12) → i + l.length + 1 = (ls p.Code).length → fits p i (l ++ [ik 12]) = true
  | [], i, _, h => by
    have : fit p (ik 12) = true := by unfold fit; simp
    rw [List.nil_append, fits, fits, this]
    simp at h
    simp [h]
  | x :: l, i, hx, h => by
    obtain ⟨h1, h2⟩ := hx x (by simp)
    simp only [List.length_cons] at h
    rw [List.cons_append, fits, h1, fits_app l (i + 1) (fun y hy => hx y (by simp [hy])) (by omega), decide_eq_false (by omega)]
    simp [h2]
theorem rp_prg {n : T27} (hg : good n 0) (hc : cnt n ≤ 8192) (hs : sz n < 16384) : rp (prg n) = true := by
  have hl := cd_len n 0 (by omega) hg 0 0
  have hok := cd_ok n 0 (by omega) hg 0 0
  have h99 := gcnt_99 n 0 hg
  have hd := dep_sz n 0 hg
  have hcode : ls (prg n).Code = cd n 0 0 ++ [ik 12] := rfl
  have hlen : (ls (prg n).Code).length = sz n + 1 := by rw [hcode, List.length_append, hl]; rfl
  unfold rp
  rw [hlen, decide_eq_true (by show 0 ≤ ((gcnt n : Nat) : Int) ∧ ((gcnt n : Nat) : Int) ≤ 99 ∧ 0 ≤ ((dep n : Nat) : Int) ∧ ((dep n : Nat) : Int) ≤ 16384 ∧ _; omega), hcode, Bool.true_and]
  apply fits_app
  · intro x hx
    exact okx_fit (hok x hx) (by rw [hlen]; omega) (by show ((gcnt n : Nat) : Int) = _; omega) (by show ((dep n : Nat) : Int) = _; omega)
  · rw [hl, hlen]; omega
end Go.Proofs.Ytjbafmnocopofaa
end
section
/-
  Twins with fuel of printed functions: closed runs are run by the kernel.
-/

namespace Go.Proofs.Ytjbafmnocopofaa
open Go AW
set_option linter.unusedVariables false
set_option linter.unusedSimpArgs false
set_option maxRecDepth 100000
set_option maxHeartbeats 4000000
def Le {α : Type} (x y : Option α) : Prop := ∀ r, x = some r → y = some r
theorem le_refl {α : Type} (x : Option α) : Le x x := fun _ h => h
theorem le_none {α : Type} (x : Option α) : Le none x := fun _ h => by cases h
theorem le_bind {α β : Type} {x y : Option α} {f g : α → Option β} (h : Le x y) (h' : ∀ v, Le (f v) (g v)) : Le (x >>= f) (y >>= g) := fun r e => by
  obtain ⟨v, e1, e2⟩ := bind_some e
  rw [h v e1]; exact h' v r e2
theorem le_ite {α : Type} {c : Prop} [Decidable c] {x y x' y' : Option α} (h : Le x x') (h' : Le y y') : Le (if c then x else y) (if c then x' else y') := fun r e => by
  by_cases k : c
  · rw [if_pos k] at e ⊢; exact h r e
  · rw [if_neg k] at e ⊢; exact h' r e
noncomputable def HG31 (fu : Nat)  : St31 → Option Bool := fun st => match st with
 | .p1 n kids want =>
  (if (kids == want) = true then
   (if (n.Kind == 2) = true then
    (if (n.Kind == 5) = true then
     (if (n.Kind == 6) = true then
      (some true)
     else
      (if (n.Kind == 7) = true then
       (some true)
      else
       (some (n.Group == 0))))
    else
     (if (n.Min == 0) = true then
      (if (n.Max == 0) = true then
       (if (n.Kind == 6) = true then
        (some true)
       else
        (if (n.Kind == 7) = true then
         (some true)
        else
         (some (n.Group == 0))))
      else
       (some false))
     else
      (some false)))
   else
    (if (decide (n.Set = (Arr.rep 4 0))) = true then
     (if (n.Kind == 5) = true then
      (if (n.Kind == 6) = true then
       (some true)
      else
       (if (n.Kind == 7) = true then
        (some true)
       else
        (some (n.Group == 0))))
     else
      (if (n.Min == 0) = true then
       (if (n.Max == 0) = true then
        (if (n.Kind == 6) = true then
         (some true)
        else
         (if (n.Kind == 7) = true then
          (some true)
         else
          (some (n.Group == 0))))
       else
        (some false))
      else
       (some false)))
    else
     (some false)))
  else
   (some false))
theorem leG31 (fu : Nat) (st : St31) : Le (HG31 fu st) (G31 st) := by
  unfold HG31 G31
  cases st <;> dsimp only <;> (repeat' (with_reducible first | exact le_refl _ | apply le_ite | refine le_bind ?_ (fun _ => ?_)))
noncomputable def HF31 (fu : Nat) (n : T27) : Option Bool :=
 (if (n.Kind == 3) = true then
  (HG31 fu (.p1 n ((ls n.Kids).length : Int) (if 2 > ((ls n.Kids).length : Int) then 2 else ((ls n.Kids).length : Int))))
 else
  (if (n.Kind == 4) = true then
   (HG31 fu (.p1 n ((ls n.Kids).length : Int) (if 2 > ((ls n.Kids).length : Int) then 2 else ((ls n.Kids).length : Int))))
  else
   (if (n.Kind == 5) = true then
    (if (decide (n.Min < 0)) = true then
     (some false)
    else
     (if (decide (n.Min > 255)) = true then
      (some false)
     else
      (if (n.Max != (-1)) = true then
       (if (decide (n.Max < n.Min)) = true then
        (some false)
       else
        (if (decide (n.Max > 255)) = true then
         (some false)
        else
         (HG31 fu (.p1 n ((ls n.Kids).length : Int) 1))))
      else
       (HG31 fu (.p1 n ((ls n.Kids).length : Int) 1)))))
   else
    (if (n.Kind == 6) = true then
     (HG31 fu (.p1 n ((ls n.Kids).length : Int) 1))
    else
     (if (n.Kind == 1) = true then
      (HG31 fu (.p1 n ((ls n.Kids).length : Int) 0))
     else
      (if (n.Kind == 2) = true then
       (HG31 fu (.p1 n ((ls n.Kids).length : Int) 0))
      else
       (if (n.Kind == 7) = true then
        (HG31 fu (.p1 n ((ls n.Kids).length : Int) 0))
       else
        (if (n.Kind == 8) = true then
         (HG31 fu (.p1 n ((ls n.Kids).length : Int) 0))
        else
         (if (n.Kind == 9) = true then
          (HG31 fu (.p1 n ((ls n.Kids).length : Int) 0))
         else
          (some false))))))))))
theorem leF31 (fu : Nat) (n : T27) : Le (HF31 fu n) (F31 n) := by
  unfold HF31 F31
  repeat' (with_reducible first | exact leG31 fu _ | exact le_refl _ | apply le_ite | refine le_bind ?_ (fun _ => ?_))
noncomputable def SG38 (fu : Nat)  (ih : St38 → Option (Int × Int)) : St38 → Option (Int × Int) := fun st => match st with
 | .e n =>
  (if (n.Kind == 6) = true then
   (ih (.p1 n n.Group n.Group))
  else
   (ih (.p1 n 0 0)))
 | .p1 n low high =>
  (ih (.p2 low high n.Kids ((ls n.Kids).length : Int) 0))
 | .p2 low high t18_ t19_ t20_ =>
  (if (decide (t20_ < t19_)) = true then
   (ix (ls t18_) t20_ >>= fun v_3 =>
    (ih (.e v_3) >>= fun r_6 =>
     (if (decide (r_6.1 > 0)) = true then
      (if (low == 0) = true then
       (ih (.p3 r_6.1 high r_6.2 t18_ t19_ t20_))
      else
       (if (decide (r_6.1 < low)) = true then
        (ih (.p3 r_6.1 high r_6.2 t18_ t19_ t20_))
       else
        (ih (.p3 low high r_6.2 t18_ t19_ t20_))))
     else
      (ih (.p3 low high r_6.2 t18_ t19_ t20_)))))
  else
   (some (low, high)))
 | .p3 low high b t18_ t19_ t20_ =>
  (ih (.p2 low (if b > high then b else high) t18_ t19_ (IntKind.wrap .i64 (t20_ + 1))))
noncomputable def HG38 (fu : Nat)  : St38 → Option (Int × Int) :=
 Nat.rec (motive := fun _ => St38 → Option (Int × Int)) (fun _ => none) (fun fu ih => SG38 fu ih) fu
theorem HG38_s (fu : Nat)  (st : St38) : HG38 (fu + 1) st = SG38 fu (HG38 fu) st := rfl
theorem leG38 (fu : Nat) (st : St38) : Le (HG38 fu st) (G38 st) := by
  induction fu generalizing st with
  | zero => exact le_none _
  | succ fu ih =>
    cases st
    · rw [HG38_s, G38.eq_1]
      unfold SG38
      dsimp only
      generalize HG38 fu = hh at ih ⊢
      repeat' (with_reducible first | exact ih _ | exact le_refl _ | apply le_ite | refine le_bind ?_ (fun _ => ?_))
    · rw [HG38_s, G38.eq_2]
      unfold SG38
      dsimp only
      generalize HG38 fu = hh at ih ⊢
      repeat' (with_reducible first | exact ih _ | exact le_refl _ | apply le_ite | refine le_bind ?_ (fun _ => ?_))
    · rw [HG38_s, G38.eq_3]
      unfold SG38
      dsimp only
      generalize HG38 fu = hh at ih ⊢
      repeat' (with_reducible first | exact ih _ | exact le_refl _ | apply le_ite | refine le_bind ?_ (fun _ => ?_))
    · rw [HG38_s, G38.eq_4]
      unfold SG38
      dsimp only
      generalize HG38 fu = hh at ih ⊢
      repeat' (with_reducible first | exact ih _ | exact le_refl _ | apply le_ite | refine le_bind ?_ (fun _ => ?_))
noncomputable def HF38 (fu : Nat) (n : T27) : Option (Int × Int) := HG38 fu (.e n)
theorem leF38 (fu : Nat) (n : T27) : Le (HF38 fu n) (F38 n) := by
  unfold HF38 F38
  repeat' (with_reducible first | exact leG38 fu _ | exact le_refl _ | apply le_ite | refine le_bind ?_ (fun _ => ?_))
noncomputable def HF29 (fu : Nat) (n : T27) : Option T27 :=
 (some n)
theorem leF29 (fu : Nat) (n : T27) : Le (HF29 fu n) (F29 n) := by
  unfold HF29 F29
  repeat' (with_reducible first | exact le_refl _ | apply le_ite | refine le_bind ?_ (fun _ => ?_))
noncomputable def SG41 (fu : Nat) {σ : Type} (Y : T27 → σ → Option (Bool × σ)) (ih : St41 σ → Option (Bool × σ)) : St41 σ → Option (Bool × σ) := fun st => match st with
 | .e n s_ =>
  (Y n s_ >>= fun r_1 =>
   (if (!r_1.1) = true then
    (some (false, r_1.2))
   else
    (ih (.p1 n ((ls n.Kids).length : Int) 0 r_1.2))))
 | .p1 n t14_ t15_ s_ =>
  (if (decide (t15_ < t14_)) = true then
   (ix (ls n.Kids) t15_ >>= fun v_5 =>
    (ih (.e v_5 s_) >>= fun r_7 =>
     (if (!r_7.1) = true then
      (some (false, r_7.2))
     else
      (ih (.p1 n t14_ (IntKind.wrap .i64 (t15_ + 1)) r_7.2)))))
  else
   (some (true, s_)))
noncomputable def HG41 (fu : Nat) {σ : Type} (Y : T27 → σ → Option (Bool × σ)) : St41 σ → Option (Bool × σ) :=
 Nat.rec (motive := fun _ => St41 σ → Option (Bool × σ)) (fun _ => none) (fun fu ih => SG41 fu Y ih) fu
theorem HG41_s (fu : Nat) {σ : Type} (Y : T27 → σ → Option (Bool × σ)) (st : St41 σ) : HG41 (fu + 1) Y st = SG41 fu Y (HG41 fu Y) st := rfl
theorem leG41 (fu : Nat) {σ : Type} (Y Y2 : T27 → σ → Option (Bool × σ)) (hY : ∀ a b, Le (Y a b) (Y2 a b)) (st : St41 σ) : Le (HG41 fu Y st) (G41 Y2 st) := by
  induction fu generalizing st with
  | zero => exact le_none _
  | succ fu ih =>
    cases st
    · rw [HG41_s, G41.eq_1]
      unfold SG41
      dsimp only
      generalize HG41 fu Y = hh at ih ⊢
      repeat' (with_reducible first | exact ih _ | exact hY _ _ | exact le_refl _ | apply le_ite | refine le_bind ?_ (fun _ => ?_))
    · rw [HG41_s, G41.eq_2]
      unfold SG41
      dsimp only
      generalize HG41 fu Y = hh at ih ⊢
      repeat' (with_reducible first | exact ih _ | exact hY _ _ | exact le_refl _ | apply le_ite | refine le_bind ?_ (fun _ => ?_))
noncomputable def HF41 (fu : Nat) {σ : Type} (Y : T27 → σ → Option (Bool × σ)) (n : T27) (s_ : σ) : Option (Bool × σ) := HG41 fu Y (.e n s_)
theorem leF41 (fu : Nat) {σ : Type} (Y Y2 : T27 → σ → Option (Bool × σ)) (n : T27) (s_ : σ) (hY : ∀ a b, Le (Y a b) (Y2 a b)) : Le (HF41 fu Y n s_) (F41 Y2 n s_) := by
  unfold HF41 F41
  repeat' (with_reducible first | exact hY _ _ | exact leG41 fu _ _ (fun _ _ => by first | exact hY _ _ ) _ | exact le_refl _ | apply le_ite | refine le_bind ?_ (fun _ => ?_))
noncomputable def HF40 (fu : Nat) {σ : Type} (Y : T27 → σ → Option (Bool × σ)) (d0_ : T27) (s_ : σ) : Option σ :=
 (HF41 fu Y d0_ s_ >>= fun r_2 =>
  (some r_2.2))
theorem leF40 (fu : Nat) {σ : Type} (Y Y2 : T27 → σ → Option (Bool × σ)) (d0_ : T27) (s_ : σ) (hY : ∀ a b, Le (Y a b) (Y2 a b)) : Le (HF40 fu Y d0_ s_) (F40 Y2 d0_ s_) := by
  unfold HF40 F40
  repeat' (with_reducible first | exact hY _ _ | exact leF41 fu _ _ _ _ (fun _ _ => by first | exact hY _ _ ) | exact le_refl _ | apply le_ite | refine le_bind ?_ (fun _ => ?_))
noncomputable def HB28_1 (fu : Nat) (t2_ : Int) (t5_ : T27) (x : T27) (zz : Int × Nat) : Option (Bool × (Int × Nat)) := if zz.2 = 0 then
 (if (x.Kind == 6) = true then
  (some (true, (IntKind.wrap .i64 (zz.1 + 1), 0)))
 else
  (some (true, (zz.1, 0))))
else none
theorem leB28_1 (fu : Nat) (t2_ : Int) (t5_ : T27) (x : T27) (zz : Int × Nat) : Le (HB28_1 fu t2_ t5_ x zz) (B28_1 t2_ t5_ x zz) := by
  unfold HB28_1 B28_1
  repeat' (with_reducible first | exact le_refl _ | apply le_ite | refine le_bind ?_ (fun _ => ?_))
noncomputable def HG28 (fu : Nat)  : St28 → Option Int := fun st => match st with
 | .p1 t2_ t5_ k =>
  (HF40 fu (HB28_1 fu t2_ t5_) t5_ (k, 0) >>= fun r_4 =>
   (if r_4.2 = 0 then
    (some r_4.1)
   else
    none))
theorem leG28 (fu : Nat) (st : St28) : Le (HG28 fu st) (G28 st) := by
  unfold HG28 G28
  cases st <;> dsimp only <;> (repeat' (with_reducible first | exact leF40 fu _ _ _ _ (fun _ _ => by first | exact leB28_1 fu _ _ _ _) | exact leB28_1 fu _ _ _ _ | exact le_refl _ | apply le_ite | refine le_bind ?_ (fun _ => ?_)))
noncomputable def HF28 (fu : Nat) (n : T27) : Option Int :=
 (HF29 fu n >>= fun r_2 =>
  (HG28 fu (.p1 0 r_2 0)))
theorem leF28 (fu : Nat) (n : T27) : Le (HF28 fu n) (F28 n) := by
  unfold HF28 F28
  repeat' (with_reducible first | exact leF29 fu _ | exact leG28 fu _ | exact le_refl _ | apply le_ite | refine le_bind ?_ (fun _ => ?_))
noncomputable def HF37 (fu : Nat) (x_ : Int) (q0_ : Int) : Option Int :=
 (some (if 16385 < (IntKind.wrap .i64 (q0_ + x_)) then 16385 else (IntKind.wrap .i64 (q0_ + x_))))
theorem leF37 (fu : Nat) (x_ : Int) (q0_ : Int) : Le (HF37 fu x_ q0_) (F37 x_ q0_) := by
  unfold HF37 F37
  repeat' (with_reducible first | exact le_refl _ | apply le_ite | refine le_bind ?_ (fun _ => ?_))
noncomputable def SG25 (fu : Nat)  (ih : St25 → Option Int) : St25 → Option Int := fun st => match st with
 | .e n =>
  (if (n.Kind == 1) = true then
   (some 0)
  else
   (if (n.Kind == 3) = true then
    (ih (.p1 n 0))
   else
    (if (n.Kind == 4) = true then
     (ih (.p1 n 0))
    else
     (if (n.Kind == 6) = true then
      (ih (.p1 n 0))
     else
      (if (n.Kind == 5) = true then
       (ix (ls n.Kids) 0 >>= fun v_7 =>
        (ih (.e v_7) >>= fun r_9 =>
         (ix (ls n.Kids) 0 >>= fun v_11 =>
          (HF38 fu v_11 >>= fun r_13 =>
           (if (decide (r_13.1 > 0)) = true then
            (ih (.p2 n (if 16385 < (IntKind.wrap .i64 (r_9 + 1)) then 16385 else (IntKind.wrap .i64 (r_9 + 1))) 0))
           else
            (ih (.p2 n r_9 0)))))))
      else
       (HF37 fu 1 0 >>= fun r_16 =>
        (some r_16)))))))
 | .p1 n sum =>
  (ih (.p3 n n.Kids ((ls n.Kids).length : Int) 0 sum))
 | .p2 n round sum =>
  (HF37 fu (IntKind.wrap .i64 (n.Min * round)) sum >>= fun r_18 =>
   (if (n.Max == (-1)) = true then
    (HF37 fu (IntKind.wrap .i64 (round + 4)) r_18 >>= fun r_21 =>
     (some r_21))
   else
    (HF37 fu (IntKind.wrap .i64 ((IntKind.wrap .i64 (n.Max - n.Min)) * (IntKind.wrap .i64 (round + 3)))) r_18 >>= fun r_23 =>
     (some r_23))))
 | .p3 n t22_ t23_ t24_ sum =>
  (if (decide (t24_ < t23_)) = true then
   (ix (ls t22_) t24_ >>= fun v_26 =>
    (ih (.e v_26) >>= fun r_29 =>
     (HF37 fu r_29 sum >>= fun r_31 =>
      (ih (.p3 n t22_ t23_ (IntKind.wrap .i64 (t24_ + 1)) r_31)))))
  else
   (if (n.Kind == 4) = true then
    (HF37 fu (IntKind.wrap .i64 (2 * (IntKind.wrap .i64 (((ls n.Kids).length : Int) - 1)))) sum >>= fun r_34 =>
     (ih (.p4 n r_34)))
   else
    (ih (.p4 n sum))))
 | .p4 n sum =>
  (if (n.Kind == 6) = true then
   (HF37 fu 2 sum >>= fun r_37 =>
    (some r_37))
  else
   (some sum))
noncomputable def HG25 (fu : Nat)  : St25 → Option Int :=
 Nat.rec (motive := fun _ => St25 → Option Int) (fun _ => none) (fun fu ih => SG25 fu ih) fu
theorem HG25_s (fu : Nat)  (st : St25) : HG25 (fu + 1) st = SG25 fu (HG25 fu) st := rfl
theorem leG25 (fu : Nat) (st : St25) : Le (HG25 fu st) (G25 st) := by
  induction fu generalizing st with
  | zero => exact le_none _
  | succ fu ih =>
    cases st
    · rw [HG25_s, G25.eq_1]
      unfold SG25
      dsimp only
      generalize HG25 fu = hh at ih ⊢
      repeat' (with_reducible first | exact ih _ | exact leF38 fu _ | exact leF37 fu _ _ | exact le_refl _ | apply le_ite | refine le_bind ?_ (fun _ => ?_))
    · rw [HG25_s, G25.eq_2]
      unfold SG25
      dsimp only
      generalize HG25 fu = hh at ih ⊢
      repeat' (with_reducible first | exact ih _ | exact leF38 fu _ | exact leF37 fu _ _ | exact le_refl _ | apply le_ite | refine le_bind ?_ (fun _ => ?_))
    · rw [HG25_s, G25.eq_3]
      unfold SG25
      dsimp only
      generalize HG25 fu = hh at ih ⊢
      repeat' (with_reducible first | exact ih _ | exact leF38 fu _ | exact leF37 fu _ _ | exact le_refl _ | apply le_ite | refine le_bind ?_ (fun _ => ?_))
    · rw [HG25_s, G25.eq_4]
      unfold SG25
      dsimp only
      generalize HG25 fu = hh at ih ⊢
      repeat' (with_reducible first | exact ih _ | exact leF38 fu _ | exact leF37 fu _ _ | exact le_refl _ | apply le_ite | refine le_bind ?_ (fun _ => ?_))
    · rw [HG25_s, G25.eq_5]
      unfold SG25
      dsimp only
      generalize HG25 fu = hh at ih ⊢
      repeat' (with_reducible first | exact ih _ | exact leF38 fu _ | exact leF37 fu _ _ | exact le_refl _ | apply le_ite | refine le_bind ?_ (fun _ => ?_))
noncomputable def HF25 (fu : Nat) (n : T27) : Option Int := HG25 fu (.e n)
theorem leF25 (fu : Nat) (n : T27) : Le (HF25 fu n) (F25 n) := by
  unfold HF25 F25
  repeat' (with_reducible first | exact leG25 fu _ | exact le_refl _ | apply le_ite | refine le_bind ?_ (fun _ => ?_))
noncomputable def SG30 (fu : Nat)  (ih : St30 → Option (Bool × Int × Sl Bool)) : St30 → Option (Bool × Int × Sl Bool) := fun st => match st with
 | .e n q0_ q1_ q2_ =>
  (if q0_ = true then
   (HF31 fu n >>= fun r_2 =>
    (ih (.p1 n r_2 q1_ q2_)))
  else
   (ih (.p1 n false q1_ q2_)))
 | .p1 n q0_ q1_ q2_ =>
  (if (!q0_) = true then
   (some (q0_, q1_, q2_))
  else
   (if (n.Kind == 6) = true then
    (if (n.Group == (IntKind.wrap .i64 (q1_ + 1))) = true then
     (ih (.p2 n (decide ((IntKind.wrap .i64 (q1_ + 1)) ≤ 99)) (IntKind.wrap .i64 (q1_ + 1)) q2_))
    else
     (ih (.p2 n false (IntKind.wrap .i64 (q1_ + 1)) q2_)))
   else
    (if (n.Kind == 7) = true then
     (if (decide (n.Group ≥ 1)) = true then
      (if (decide (n.Group ≤ 9)) = true then
       (if (decide (n.Group ≤ q1_)) = true then
        (ix (ls q2_) (IntKind.wrap .i64 (n.Group - 1)) >>= fun v_12 =>
         (ih (.p3 n v_12 q1_ q2_)))
       else
        (ih (.p3 n false q1_ q2_)))
      else
       (ih (.p3 n false q1_ q2_)))
     else
      (ih (.p3 n false q1_ q2_)))
    else
     (ih (.p3 n q0_ q1_ q2_)))))
 | .p2 n q0_ q1_ q2_ =>
  (if ((ls q2_).length + (ls (some ([false] : List Bool))).length) * 1 ≤ 140737488355328 then
   (ih (.p3 n q0_ q1_ (sapp q2_ (ls (some ([false] : List Bool))))))
  else none)
 | .p3 n q0_ q1_ q2_ =>
  (ih (.p4 n ((ls n.Kids).length : Int) 0 q0_ q1_ q2_))
 | .p4 n t71_ t72_ q0_ q1_ q2_ =>
  (if (decide (t72_ < t71_)) = true then
   (if q0_ = true then
    (ix (ls n.Kids) t72_ >>= fun v_20 =>
     (ih (.e v_20 q0_ q1_ q2_) >>= fun r_22 =>
      (ih (.p4 n t71_ (IntKind.wrap .i64 (t72_ + 1)) r_22.1 r_22.2.1 r_22.2.2))))
   else
    (ih (.p4 n t71_ (IntKind.wrap .i64 (t72_ + 1)) q0_ q1_ q2_)))
  else
   (if q0_ = true then
    (if (n.Kind == 6) = true then
     (ix (ls q2_) (IntKind.wrap .i64 (n.Group - 1)) >>= fun v_27 =>
      (some (q0_, q1_, (vset q2_ (IntKind.wrap .i64 (n.Group - 1)) true))))
    else
     (some (q0_, q1_, q2_)))
   else
    (some (q0_, q1_, q2_))))
noncomputable def HG30 (fu : Nat)  : St30 → Option (Bool × Int × Sl Bool) :=
 Nat.rec (motive := fun _ => St30 → Option (Bool × Int × Sl Bool)) (fun _ => none) (fun fu ih => SG30 fu ih) fu
theorem HG30_s (fu : Nat)  (st : St30) : HG30 (fu + 1) st = SG30 fu (HG30 fu) st := rfl
theorem leG30 (fu : Nat) (st : St30) : Le (HG30 fu st) (G30 st) := by
  induction fu generalizing st with
  | zero => exact le_none _
  | succ fu ih =>
    cases st
    · rw [HG30_s, G30.eq_1]
      unfold SG30
      dsimp only
      generalize HG30 fu = hh at ih ⊢
      repeat' (with_reducible first | exact ih _ | exact leF31 fu _ | exact le_refl _ | apply le_ite | refine le_bind ?_ (fun _ => ?_))
    · rw [HG30_s, G30.eq_2]
      unfold SG30
      dsimp only
      generalize HG30 fu = hh at ih ⊢
      repeat' (with_reducible first | exact ih _ | exact leF31 fu _ | exact le_refl _ | apply le_ite | refine le_bind ?_ (fun _ => ?_))
    · rw [HG30_s, G30.eq_3]
      unfold SG30
      dsimp only
      generalize HG30 fu = hh at ih ⊢
      repeat' (with_reducible first | exact ih _ | exact leF31 fu _ | exact le_refl _ | apply le_ite | refine le_bind ?_ (fun _ => ?_))
    · rw [HG30_s, G30.eq_4]
      unfold SG30
      dsimp only
      generalize HG30 fu = hh at ih ⊢
      repeat' (with_reducible first | exact ih _ | exact leF31 fu _ | exact le_refl _ | apply le_ite | refine le_bind ?_ (fun _ => ?_))
    · rw [HG30_s, G30.eq_5]
      unfold SG30
      dsimp only
      generalize HG30 fu = hh at ih ⊢
      repeat' (with_reducible first | exact ih _ | exact leF31 fu _ | exact le_refl _ | apply le_ite | refine le_bind ?_ (fun _ => ?_))
noncomputable def HF30 (fu : Nat) (n : T27) (q0_ : Bool) (q1_ : Int) (q2_ : Sl Bool) : Option (Bool × Int × Sl Bool) := HG30 fu (.e n q0_ q1_ q2_)
theorem leF30 (fu : Nat) (n : T27) (q0_ : Bool) (q1_ : Int) (q2_ : Sl Bool) : Le (HF30 fu n q0_ q1_ q2_) (F30 n q0_ q1_ q2_) := by
  unfold HF30 F30
  repeat' (with_reducible first | exact leG30 fu _ | exact le_refl _ | apply le_ite | refine le_bind ?_ (fun _ => ?_))
noncomputable def HB12_1 (fu : Nat) (n : T27) (t8_ : T27) (x : T27) (zz : Int × Int × Nat) : Option (Bool × (Int × Int × Nat)) := if zz.2.2 = 0 then
 (if (decide ((IntKind.wrap .i64 (zz.2.1 + 1)) > 8192)) = true then
  (some (false, (3, IntKind.wrap .i64 (zz.2.1 + 1), 1)))
 else
  (some (true, (zz.1, IntKind.wrap .i64 (zz.2.1 + 1), 0))))
else none
theorem leB12_1 (fu : Nat) (n : T27) (t8_ : T27) (x : T27) (zz : Int × Int × Nat) : Le (HB12_1 fu n t8_ x zz) (B12_1 n t8_ x zz) := by
  unfold HB12_1 B12_1
  repeat' (with_reducible first | exact le_refl _ | apply le_ite | refine le_bind ?_ (fun _ => ?_))
noncomputable def HG12 (fu : Nat)  : St12 → Option Int := fun st => match st with
 | .p1 n t8_ t2_ count =>
  (HF40 fu (HB12_1 fu n t8_) t8_ (t2_, count, 0) >>= fun r_5 =>
   (if r_5.2.2 = 0 then
    (HF30 fu n true 0 (none : Sl Bool) >>= fun r_12 =>
     (if (!r_12.1) = true then
      (some 90)
     else
      (some 0)))
   else
    (if r_5.2.2 = 1 then
     (some r_5.1)
    else
     none)))
theorem leG12 (fu : Nat) (st : St12) : Le (HG12 fu st) (G12 st) := by
  unfold HG12 G12
  cases st <;> dsimp only <;> (repeat' (with_reducible first | exact leF40 fu _ _ _ _ (fun _ _ => by first | exact leB12_1 fu _ _ _ _) | exact leB12_1 fu _ _ _ _ | exact leF30 fu _ _ _ _ | exact le_refl _ | apply le_ite | refine le_bind ?_ (fun _ => ?_)))
noncomputable def HF12 (fu : Nat) (n : T27) : Option Int :=
 (HF29 fu n >>= fun r_3 =>
  (HG12 fu (.p1 n r_3 0 0)))
theorem leF12 (fu : Nat) (n : T27) : Le (HF12 fu n) (F12 n) := by
  unfold HF12 F12
  repeat' (with_reducible first | exact leF29 fu _ | exact leG12 fu _ | exact le_refl _ | apply le_ite | refine le_bind ?_ (fun _ => ?_))
noncomputable def HF27 (fu : Nat) (c : T65) (x_ : T52) : Option (Int × T65) :=
 (if ((ls c.code).length + (ls (some ([x_] : List T52))).length) * 72 ≤ 140737488355328 then
  (some (IntKind.wrap .i64 (((ls (sapp c.code (ls (some ([x_] : List T52))))).length : Int) - 1), ({ c with code := sapp c.code (ls (some ([x_] : List T52))) } : T65)))
 else none)
theorem leF27 (fu : Nat) (c : T65) (x_ : T52) : Le (HF27 fu c x_) (F27 c x_) := by
  unfold HF27 F27
  repeat' (with_reducible first | exact le_refl _ | apply le_ite | refine le_bind ?_ (fun _ => ?_))
noncomputable def HF58 (fu : Nat) (s : T92) (i : Int) : Option (Bool × T92) :=
 (ix (ls s.in_) i >>= fun v_3 =>
  (if v_3 = true then
   (some (false, s))
  else
   (ix (ls s.in_) i >>= fun v_6 =>
    (if ((ls s.list).length + (ls (some ([i] : List Int))).length) * 8 ≤ 140737488355328 then
     (some (true, ({ s with in_ := (vset s.in_ i true), list := sapp s.list (ls (some ([i] : List Int))) } : T92)))
    else none))))
theorem leF58 (fu : Nat) (s : T92) (i : Int) : Le (HF58 fu s i) (F58 s i) := by
  unfold HF58 F58
  repeat' (with_reducible first | exact le_refl _ | apply le_ite | refine le_bind ?_ (fun _ => ?_))
noncomputable def HF9 (fu : Nat) (n : T27) : Option (Int × Int) :=
 (HF12 fu n >>= fun r_1 =>
  (if (r_1 != 0) = true then
   (some (0, r_1))
  else
   (HF25 fu n >>= fun r_4 =>
    (if (decide (r_4 < 16384)) = true then
     (some (IntKind.wrap .i64 (r_4 + 1), 0))
    else
     (some (0, 3))))))
theorem leF9 (fu : Nat) (n : T27) : Le (HF9 fu n) (F9 n) := by
  unfold HF9 F9
  repeat' (with_reducible first | exact leF12 fu _ | exact leF25 fu _ | exact le_refl _ | apply le_ite | refine le_bind ?_ (fun _ => ?_))
noncomputable def HF39 (fu : Nat)  : Option Unit :=
 (some ())
theorem leF39 (fu : Nat)  : Le (HF39 fu ) (F39 ) := by
  unfold HF39 F39
  repeat' (with_reducible first | exact le_refl _ | apply le_ite | refine le_bind ?_ (fun _ => ?_))
noncomputable def HF46 (fu : Nat) (c : T65) (n : T27) : Option T65 :=
 (some c)
theorem leF46 (fu : Nat) (c : T65) (n : T27) : Le (HF46 fu c n) (F46 c n) := by
  unfold HF46 F46
  repeat' (with_reducible first | exact le_refl _ | apply le_ite | refine le_bind ?_ (fun _ => ?_))
noncomputable def HF47 (fu : Nat) (c : T65) (n : T27) : Option T65 :=
 (HF27 fu c ({ Kind := 1, Set := n.Set, To := 0, Group := 0, Last := 0, Slot := 0 } : T52) >>= fun r_1 =>
  (some r_1.2))
theorem leF47 (fu : Nat) (c : T65) (n : T27) : Le (HF47 fu c n) (F47 c n) := by
  unfold HF47 F47
  repeat' (with_reducible first | exact leF27 fu _ _ | exact le_refl _ | apply le_ite | refine le_bind ?_ (fun _ => ?_))
noncomputable def HF48 (fu : Nat) (c : T65) (n : T27) : Option T65 :=
 (HF27 fu c ({ Kind := 10, Set := (Arr.rep 4 0), To := 0, Group := 0, Last := 0, Slot := 0 } : T52) >>= fun r_1 =>
  (some r_1.2))
theorem leF48 (fu : Nat) (c : T65) (n : T27) : Le (HF48 fu c n) (F48 c n) := by
  unfold HF48 F48
  repeat' (with_reducible first | exact leF27 fu _ _ | exact le_refl _ | apply le_ite | refine le_bind ?_ (fun _ => ?_))
noncomputable def HF49 (fu : Nat) (c : T65) (n : T27) : Option T65 :=
 (HF27 fu c ({ Kind := 11, Set := (Arr.rep 4 0), To := 0, Group := 0, Last := 0, Slot := 0 } : T52) >>= fun r_1 =>
  (some r_1.2))
theorem leF49 (fu : Nat) (c : T65) (n : T27) : Le (HF49 fu c n) (F49 c n) := by
  unfold HF49 F49
  repeat' (with_reducible first | exact leF27 fu _ _ | exact le_refl _ | apply le_ite | refine le_bind ?_ (fun _ => ?_))
noncomputable def HF50 (fu : Nat) (c : T65) (n : T27) : Option T65 :=
 (HF27 fu c ({ Kind := 9, Set := (Arr.rep 4 0), To := 0, Group := n.Group, Last := 0, Slot := 0 } : T52) >>= fun r_1 =>
  (some r_1.2))
theorem leF50 (fu : Nat) (c : T65) (n : T27) : Le (HF50 fu c n) (F50 c n) := by
  unfold HF50 F50
  repeat' (with_reducible first | exact leF27 fu _ _ | exact le_refl _ | apply le_ite | refine le_bind ?_ (fun _ => ?_))
noncomputable def SG26r (fu : Nat)  (ih : St26r → Option T65) : St26r → Option T65 := fun st => match st with
 | .e26 c n =>
  (HF39 fu >>= fun r_1 =>
   (if n.Kind = 1 then
    (HF46 fu c n >>= fun r_28 =>
     (some r_28))
   else
    (if n.Kind = 2 then
     (HF47 fu c n >>= fun r_25 =>
      (some r_25))
    else
     (if n.Kind = 3 then
      (ih (.e51 c n) >>= fun r_22 =>
       (some r_22))
     else
      (if n.Kind = 4 then
       (ih (.e53 c n) >>= fun r_19 =>
        (some r_19))
      else
       (if n.Kind = 5 then
        (ih (.e54 c n) >>= fun r_16 =>
         (some r_16))
       else
        (if n.Kind = 6 then
         (ih (.e52 c n) >>= fun r_13 =>
          (some r_13))
        else
         (if n.Kind = 7 then
          (HF50 fu c n >>= fun r_10 =>
           (some r_10))
         else
          (if n.Kind = 8 then
           (HF48 fu c n >>= fun r_7 =>
            (some r_7))
          else
           (if n.Kind = 9 then
            (HF49 fu c n >>= fun r_4 =>
             (some r_4))
           else
            none))))))))))
 | .e51 c n =>
  (ih (.p51_1 n.Kids ((ls n.Kids).length : Int) 0 c))
 | .p51_1 t7_ t8_ t9_ c =>
  (if (decide (t9_ < t8_)) = true then
   (ix (ls t7_) t9_ >>= fun v_2 =>
    (ih (.e26 c v_2) >>= fun r_5 =>
     (ih (.p51_1 t7_ t8_ (IntKind.wrap .i64 (t9_ + 1)) r_5))))
  else
   (some c))
 | .e52 c n =>
  (HF27 fu c ({ Kind := 4, Set := (Arr.rep 4 0), To := 0, Group := n.Group, Last := 0, Slot := 0 } : T52) >>= fun r_1 =>
   (ix (ls n.Kids) 0 >>= fun v_3 =>
    (ih (.e26 r_1.2 v_3) >>= fun r_5 =>
     (HF27 fu r_5 ({ Kind := 5, Set := (Arr.rep 4 0), To := 0, Group := n.Group, Last := 0, Slot := 0 } : T52) >>= fun r_7 =>
      (some r_7.2)))))
 | .e53 c n =>
  (scut n.Kids 0 (IntKind.wrap .i64 (((ls n.Kids).length : Int) - 1)) >>= fun w_1 =>
   (ih (.p53_1 n (IntKind.wrap .i64 (((ls n.Kids).length : Int) - 1)) w_1 ((ls w_1).length : Int) 0 c none)))
 | .p53_1 n last t18_ t19_ t20_ c out =>
  (if (decide (t20_ < t19_)) = true then
   (ix (ls t18_) t20_ >>= fun v_5 =>
    (HF27 fu c ({ Kind := 2, Set := (Arr.rep 4 0), To := 0, Group := 0, Last := 0, Slot := 0 } : T52) >>= fun r_8 =>
     (ih (.e26 r_8.2 v_5) >>= fun r_10 =>
      (HF27 fu r_10 ({ Kind := 3, Set := (Arr.rep 4 0), To := 0, Group := 0, Last := 0, Slot := 0 } : T52) >>= fun r_12 =>
       (if ((ls out).length + (ls (some ([r_12.1] : List Int))).length) * 8 ≤ 140737488355328 then
        (ix (ls r_12.2.code) r_8.1 >>= fun v_18 =>
         (ih (.p53_1 n last t18_ t19_ (IntKind.wrap .i64 (t20_ + 1)) ({ r_12.2 with code := (vset r_12.2.code r_8.1 ({ v_18 with To := ((ls r_12.2.code).length : Int) } : T52)) } : T65) (sapp out (ls (some ([r_12.1] : List Int)))))))
       else none)))))
  else
   (ix (ls n.Kids) last >>= fun v_20 =>
    (ih (.e26 c v_20) >>= fun r_22 =>
     (ih (.p53_2 out ((ls out).length : Int) 0 r_22)))))
 | .p53_2 t56_ t57_ t58_ c =>
  (if (decide (t58_ < t57_)) = true then
   (ix (ls t56_) t58_ >>= fun v_25 =>
    (ix (ls c.code) v_25 >>= fun v_28 =>
     (ih (.p53_2 t56_ t57_ (IntKind.wrap .i64 (t58_ + 1)) ({ c with code := (vset c.code v_25 ({ v_28 with To := ((ls c.code).length : Int) } : T52)) } : T65)))))
  else
   (some c))
 | .e54 c n =>
  (ih (.p54_1 n n.Min 0 c))
 | .p54_1 n t10_ t11_ c =>
  (if (decide (t11_ < t10_)) = true then
   (ix (ls n.Kids) 0 >>= fun v_3 =>
    (ih (.e59 c v_3 false) >>= fun r_5 =>
     (if (((ls r_5.code).length : Int) == ((ls c.code).length : Int)) = true then
      (ih (.p54_2 n r_5))
     else
      (ih (.p54_1 n t10_ (IntKind.wrap .i64 (t11_ + 1)) r_5)))))
  else
   (ih (.p54_2 n c)))
 | .p54_2 n c =>
  (if (n.Max == (-1)) = true then
   (HF27 fu c ({ Kind := 2, Set := (Arr.rep 4 0), To := 0, Group := 0, Last := 0, Slot := 0 } : T52) >>= fun r_10 =>
    (ix (ls n.Kids) 0 >>= fun v_12 =>
     (ih (.e59 r_10.2 v_12 true) >>= fun r_14 =>
      (HF27 fu r_14 ({ Kind := 3, Set := (Arr.rep 4 0), To := r_10.1, Group := 0, Last := 0, Slot := 0 } : T52) >>= fun r_16 =>
       (ix (ls r_16.2.code) r_10.1 >>= fun v_19 =>
        (some ({ r_16.2 with code := (vset r_16.2.code r_10.1 ({ v_19 with To := ((ls r_16.2.code).length : Int) } : T52)) } : T65)))))))
  else
   (ih (.p54_3 n (IntKind.wrap .i64 (n.Max - n.Min)) 0 c none)))
 | .p54_3 n t64_ t65_ c out =>
  (if (decide (t65_ < t64_)) = true then
   (HF27 fu c ({ Kind := 2, Set := (Arr.rep 4 0), To := 0, Group := 0, Last := 0, Slot := 0 } : T52) >>= fun r_23 =>
    (if ((ls out).length + (ls (some ([r_23.1] : List Int))).length) * 8 ≤ 140737488355328 then
     (ix (ls n.Kids) 0 >>= fun v_28 =>
      (ih (.e59 r_23.2 v_28 true) >>= fun r_30 =>
       (ih (.p54_3 n t64_ (IntKind.wrap .i64 (t65_ + 1)) r_30 (sapp out (ls (some ([r_23.1] : List Int))))))))
    else none))
  else
   (ih (.p54_4 out ((ls out).length : Int) 0 c)))
 | .p54_4 t80_ t81_ t82_ c =>
  (if (decide (t82_ < t81_)) = true then
   (ix (ls t80_) t82_ >>= fun v_33 =>
    (ix (ls c.code) v_33 >>= fun v_36 =>
     (ih (.p54_4 t80_ t81_ (IntKind.wrap .i64 (t82_ + 1)) ({ c with code := (vset c.code v_33 ({ v_36 with To := ((ls c.code).length : Int) } : T52)) } : T65)))))
  else
   (some c))
 | .e59 c n free =>
  (if free = true then
   (HF27 fu c ({ Kind := 7, Set := (Arr.rep 4 0), To := 0, Group := 0, Last := 0, Slot := c.free } : T52) >>= fun r_3 =>
    (ih (.p59_1 free n c.free ({ r_3.2 with free := IntKind.wrap .i64 (r_3.2.free + 1), slots := (if (IntKind.wrap .i64 (r_3.2.free + 1)) > r_3.2.slots then (IntKind.wrap .i64 (r_3.2.free + 1)) else r_3.2.slots) } : T65))))
  else
   (ih (.p59_1 free n c.free c)))
 | .p59_1 free n slot c =>
  (HF38 fu n >>= fun r_6 =>
   (if (decide (r_6.1 > 0)) = true then
    (HF27 fu c ({ Kind := 6, Set := (Arr.rep 4 0), To := 0, Group := r_6.1, Last := r_6.2, Slot := 0 } : T52) >>= fun r_9 =>
     (ih (.p59_2 free n slot r_9.2)))
   else
    (ih (.p59_2 free n slot c))))
 | .p59_2 free n slot c =>
  (ih (.e26 c n) >>= fun r_11 =>
   (if free = true then
    (HF27 fu ({ r_11 with free := IntKind.wrap .i64 (r_11.free - 1) } : T65) ({ Kind := 8, Set := (Arr.rep 4 0), To := 0, Group := 0, Last := 0, Slot := slot } : T52) >>= fun r_15 =>
     (some r_15.2))
   else
    (some r_11)))
noncomputable def HG26r (fu : Nat)  : St26r → Option T65 :=
 Nat.rec (motive := fun _ => St26r → Option T65) (fun _ => none) (fun fu ih => SG26r fu ih) fu
theorem HG26r_s (fu : Nat)  (st : St26r) : HG26r (fu + 1) st = SG26r fu (HG26r fu) st := rfl
theorem leG26r (fu : Nat) (st : St26r) : Le (HG26r fu st) (G26r st) := by
  induction fu generalizing st with
  | zero => exact le_none _
  | succ fu ih =>
    cases st
    · rw [HG26r_s, G26r.eq_1]
      unfold SG26r
      dsimp only
      generalize HG26r fu = hh at ih ⊢
      repeat' (with_reducible first | exact ih _ | exact leF39 fu | exact leF46 fu _ _ | exact leF47 fu _ _ | exact leF50 fu _ _ | exact leF48 fu _ _ | exact leF49 fu _ _ | exact leF27 fu _ _ | exact leF38 fu _ | exact le_refl _ | apply le_ite | refine le_bind ?_ (fun _ => ?_))
    · rw [HG26r_s, G26r.eq_2]
      unfold SG26r
      dsimp only
      generalize HG26r fu = hh at ih ⊢
      repeat' (with_reducible first | exact ih _ | exact leF39 fu | exact leF46 fu _ _ | exact leF47 fu _ _ | exact leF50 fu _ _ | exact leF48 fu _ _ | exact leF49 fu _ _ | exact leF27 fu _ _ | exact leF38 fu _ | exact le_refl _ | apply le_ite | refine le_bind ?_ (fun _ => ?_))
    · rw [HG26r_s, G26r.eq_3]
      unfold SG26r
      dsimp only
      generalize HG26r fu = hh at ih ⊢
      repeat' (with_reducible first | exact ih _ | exact leF39 fu | exact leF46 fu _ _ | exact leF47 fu _ _ | exact leF50 fu _ _ | exact leF48 fu _ _ | exact leF49 fu _ _ | exact leF27 fu _ _ | exact leF38 fu _ | exact le_refl _ | apply le_ite | refine le_bind ?_ (fun _ => ?_))
    · rw [HG26r_s, G26r.eq_4]
      unfold SG26r
      dsimp only
      generalize HG26r fu = hh at ih ⊢
      repeat' (with_reducible first | exact ih _ | exact leF39 fu | exact leF46 fu _ _ | exact leF47 fu _ _ | exact leF50 fu _ _ | exact leF48 fu _ _ | exact leF49 fu _ _ | exact leF27 fu _ _ | exact leF38 fu _ | exact le_refl _ | apply le_ite | refine le_bind ?_ (fun _ => ?_))
    · rw [HG26r_s, G26r.eq_5]
      unfold SG26r
      dsimp only
      generalize HG26r fu = hh at ih ⊢
      repeat' (with_reducible first | exact ih _ | exact leF39 fu | exact leF46 fu _ _ | exact leF47 fu _ _ | exact leF50 fu _ _ | exact leF48 fu _ _ | exact leF49 fu _ _ | exact leF27 fu _ _ | exact leF38 fu _ | exact le_refl _ | apply le_ite | refine le_bind ?_ (fun _ => ?_))
    · rw [HG26r_s, G26r.eq_6]
      unfold SG26r
      dsimp only
      generalize HG26r fu = hh at ih ⊢
      repeat' (with_reducible first | exact ih _ | exact leF39 fu | exact leF46 fu _ _ | exact leF47 fu _ _ | exact leF50 fu _ _ | exact leF48 fu _ _ | exact leF49 fu _ _ | exact leF27 fu _ _ | exact leF38 fu _ | exact le_refl _ | apply le_ite | refine le_bind ?_ (fun _ => ?_))
    · rw [HG26r_s, G26r.eq_7]
      unfold SG26r
      dsimp only
      generalize HG26r fu = hh at ih ⊢
      repeat' (with_reducible first | exact ih _ | exact leF39 fu | exact leF46 fu _ _ | exact leF47 fu _ _ | exact leF50 fu _ _ | exact leF48 fu _ _ | exact leF49 fu _ _ | exact leF27 fu _ _ | exact leF38 fu _ | exact le_refl _ | apply le_ite | refine le_bind ?_ (fun _ => ?_))
    · rw [HG26r_s, G26r.eq_8]
      unfold SG26r
      dsimp only
      generalize HG26r fu = hh at ih ⊢
      repeat' (with_reducible first | exact ih _ | exact leF39 fu | exact leF46 fu _ _ | exact leF47 fu _ _ | exact leF50 fu _ _ | exact leF48 fu _ _ | exact leF49 fu _ _ | exact leF27 fu _ _ | exact leF38 fu _ | exact le_refl _ | apply le_ite | refine le_bind ?_ (fun _ => ?_))
    · rw [HG26r_s, G26r.eq_9]
      unfold SG26r
      dsimp only
      generalize HG26r fu = hh at ih ⊢
      repeat' (with_reducible first | exact ih _ | exact leF39 fu | exact leF46 fu _ _ | exact leF47 fu _ _ | exact leF50 fu _ _ | exact leF48 fu _ _ | exact leF49 fu _ _ | exact leF27 fu _ _ | exact leF38 fu _ | exact le_refl _ | apply le_ite | refine le_bind ?_ (fun _ => ?_))
    · rw [HG26r_s, G26r.eq_10]
      unfold SG26r
      dsimp only
      generalize HG26r fu = hh at ih ⊢
      repeat' (with_reducible first | exact ih _ | exact leF39 fu | exact leF46 fu _ _ | exact leF47 fu _ _ | exact leF50 fu _ _ | exact leF48 fu _ _ | exact leF49 fu _ _ | exact leF27 fu _ _ | exact leF38 fu _ | exact le_refl _ | apply le_ite | refine le_bind ?_ (fun _ => ?_))
    · rw [HG26r_s, G26r.eq_11]
      unfold SG26r
      dsimp only
      generalize HG26r fu = hh at ih ⊢
      repeat' (with_reducible first | exact ih _ | exact leF39 fu | exact leF46 fu _ _ | exact leF47 fu _ _ | exact leF50 fu _ _ | exact leF48 fu _ _ | exact leF49 fu _ _ | exact leF27 fu _ _ | exact leF38 fu _ | exact le_refl _ | apply le_ite | refine le_bind ?_ (fun _ => ?_))
    · rw [HG26r_s, G26r.eq_12]
      unfold SG26r
      dsimp only
      generalize HG26r fu = hh at ih ⊢
      repeat' (with_reducible first | exact ih _ | exact leF39 fu | exact leF46 fu _ _ | exact leF47 fu _ _ | exact leF50 fu _ _ | exact leF48 fu _ _ | exact leF49 fu _ _ | exact leF27 fu _ _ | exact leF38 fu _ | exact le_refl _ | apply le_ite | refine le_bind ?_ (fun _ => ?_))
    · rw [HG26r_s, G26r.eq_13]
      unfold SG26r
      dsimp only
      generalize HG26r fu = hh at ih ⊢
      repeat' (with_reducible first | exact ih _ | exact leF39 fu | exact leF46 fu _ _ | exact leF47 fu _ _ | exact leF50 fu _ _ | exact leF48 fu _ _ | exact leF49 fu _ _ | exact leF27 fu _ _ | exact leF38 fu _ | exact le_refl _ | apply le_ite | refine le_bind ?_ (fun _ => ?_))
    · rw [HG26r_s, G26r.eq_14]
      unfold SG26r
      dsimp only
      generalize HG26r fu = hh at ih ⊢
      repeat' (with_reducible first | exact ih _ | exact leF39 fu | exact leF46 fu _ _ | exact leF47 fu _ _ | exact leF50 fu _ _ | exact leF48 fu _ _ | exact leF49 fu _ _ | exact leF27 fu _ _ | exact leF38 fu _ | exact le_refl _ | apply le_ite | refine le_bind ?_ (fun _ => ?_))
    · rw [HG26r_s, G26r.eq_15]
      unfold SG26r
      dsimp only
      generalize HG26r fu = hh at ih ⊢
      repeat' (with_reducible first | exact ih _ | exact leF39 fu | exact leF46 fu _ _ | exact leF47 fu _ _ | exact leF50 fu _ _ | exact leF48 fu _ _ | exact leF49 fu _ _ | exact leF27 fu _ _ | exact leF38 fu _ | exact le_refl _ | apply le_ite | refine le_bind ?_ (fun _ => ?_))
noncomputable def HF26 (fu : Nat) (c : T65) (n : T27) : Option T65 := HG26r fu (.e26 c n)
theorem leF26 (fu : Nat) (c : T65) (n : T27) : Le (HF26 fu c n) (F26 c n) := by
  unfold HF26 F26
  repeat' (with_reducible first | exact leG26r fu _ | exact le_refl _ | apply le_ite | refine le_bind ?_ (fun _ => ?_))
noncomputable def HF10 (fu : Nat) (n : T27) : Option (T34 × Int) :=
 (HF9 fu n >>= fun r_2 =>
  (if (r_2.2 != 0) = true then
   (some (({ Groups := 0, Slots := 0, Code := none } : T34), r_2.2))
  else
   (HF26 fu ({ code := (none : Sl T52), slots := 0, free := 0 } : T65) n >>= fun r_7 =>
    (HF27 fu r_7 ({ Kind := 12, Set := (Arr.rep 4 0), To := 0, Group := 0, Last := 0, Slot := 0 } : T52) >>= fun r_9 =>
     (HF28 fu n >>= fun r_12 =>
      (some (({ Groups := r_12, Slots := r_9.2.slots, Code := r_9.2.code } : T34), 0)))))))
theorem leF10 (fu : Nat) (n : T27) : Le (HF10 fu n) (F10 n) := by
  unfold HF10 F10
  repeat' (with_reducible first | exact leF9 fu _ | exact leF26 fu _ _ | exact leF27 fu _ _ | exact leF28 fu _ | exact le_refl _ | apply le_ite | refine le_bind ?_ (fun _ => ?_))
noncomputable def HF44 (fu : Nat) (s : Arr 4 Int) (c : Int) : Option Bool :=
 (if (0 : Int) ≤ (IntKind.wrap .u8 (Int.tdiv c 64)) ∧ (IntKind.wrap .u8 (Int.tdiv c 64)) < (4 : Int) then
  (ix s.l (IntKind.wrap .u8 (Int.tdiv c 64)) >>= fun v_2 =>
   (if 0 ≤ (Int.tmod c 64) then
    (some ((andI .u64 (shrI .u64 v_2 (Int.tmod c 64)) 1) == 1))
   else none))
 else none)
theorem leF44 (fu : Nat) (s : Arr 4 Int) (c : Int) : Le (HF44 fu s c) (F44 s c) := by
  unfold HF44 F44
  repeat' (with_reducible first | exact le_refl _ | apply le_ite | refine le_bind ?_ (fun _ => ?_))
noncomputable def HF43 (fu : Nat) (p : T34) (text : Str) (place : Int) (from_ : Sl Int) : Option (T34 × Sl Int × Int × Str) :=
 (some (p, from_, place, text))
theorem leF43 (fu : Nat) (p : T34) (text : Str) (place : Int) (from_ : Sl Int) : Le (HF43 fu p text place from_) (F43 p text place from_) := by
  unfold HF43 F43
  repeat' (with_reducible first | exact le_refl _ | apply le_ite | refine le_bind ?_ (fun _ => ?_))
noncomputable def SG57 (fu : Nat) {σ : Type} (Y : Int → σ → Option (Bool × σ)) (ih : St57 σ → Option σ) : St57 σ → Option σ := fun st => match st with
 | .p1 t1_ t3_ t4_ t18_ t19_ t20_ s_ s =>
  (if (decide (t20_ < t19_)) = true then
   (ix (ls t18_) t20_ >>= fun v_6 =>
    (HF58 fu s v_6 >>= fun r_8 =>
     (ih (.p1 t1_ t3_ t4_ t18_ t19_ (IntKind.wrap .i64 (t20_ + 1)) s_ r_8.2))))
  else
   (ih (.p2 t1_ t3_ t4_ 0 s_ s)))
 | .p2 t1_ t3_ t4_ k s_ s =>
  (if (decide (k < ((ls s.list).length : Int))) = true then
   (ix (ls s.list) k >>= fun v_13 =>
    (Y v_13 s_ >>= fun r_15 =>
     (if (!r_15.1) = true then
      (some r_15.2)
     else
      (ix (ls t1_.Code) v_13 >>= fun v_18 =>
       (if (v_18.Kind == 1) = true then
        (ih (.p2 t1_ t3_ t4_ (IntKind.wrap .i64 (k + 1)) r_15.2 s))
       else
        (if (v_18.Kind == 12) = true then
         (ih (.p2 t1_ t3_ t4_ (IntKind.wrap .i64 (k + 1)) r_15.2 s))
        else
         (if (v_18.Kind == 2) = true then
          (HF58 fu s (IntKind.wrap .i64 (v_13 + 1)) >>= fun r_24 =>
           (HF58 fu r_24.2 v_18.To >>= fun r_26 =>
            (ih (.p2 t1_ t3_ t4_ (IntKind.wrap .i64 (k + 1)) r_15.2 r_26.2))))
         else
          (if (v_18.Kind == 3) = true then
           (HF58 fu s v_18.To >>= fun r_29 =>
            (ih (.p2 t1_ t3_ t4_ (IntKind.wrap .i64 (k + 1)) r_15.2 r_29.2)))
          else
           (if (v_18.Kind == 10) = true then
            (if (t3_ == 0) = true then
             (HF58 fu s (IntKind.wrap .i64 (v_13 + 1)) >>= fun r_33 =>
              (ih (.p2 t1_ t3_ t4_ (IntKind.wrap .i64 (k + 1)) r_15.2 r_33.2)))
            else
             (ih (.p2 t1_ t3_ t4_ (IntKind.wrap .i64 (k + 1)) r_15.2 s)))
           else
            (if (v_18.Kind == 11) = true then
             (if (t3_ == ((t4_).length : Int)) = true then
              (HF58 fu s (IntKind.wrap .i64 (v_13 + 1)) >>= fun r_37 =>
               (ih (.p2 t1_ t3_ t4_ (IntKind.wrap .i64 (k + 1)) r_15.2 r_37.2)))
             else
              (ih (.p2 t1_ t3_ t4_ (IntKind.wrap .i64 (k + 1)) r_15.2 s)))
            else
             (HF58 fu s (IntKind.wrap .i64 (v_13 + 1)) >>= fun r_39 =>
              (ih (.p2 t1_ t3_ t4_ (IntKind.wrap .i64 (k + 1)) r_15.2 r_39.2)))))))))))))
  else
   (some s_))
noncomputable def HG57 (fu : Nat) {σ : Type} (Y : Int → σ → Option (Bool × σ)) : St57 σ → Option σ :=
 Nat.rec (motive := fun _ => St57 σ → Option σ) (fun _ => none) (fun fu ih => SG57 fu Y ih) fu
theorem HG57_s (fu : Nat) {σ : Type} (Y : Int → σ → Option (Bool × σ)) (st : St57 σ) : HG57 (fu + 1) Y st = SG57 fu Y (HG57 fu Y) st := rfl
theorem leG57 (fu : Nat) {σ : Type} (Y Y2 : Int → σ → Option (Bool × σ)) (hY : ∀ a b, Le (Y a b) (Y2 a b)) (st : St57 σ) : Le (HG57 fu Y st) (G57 Y2 st) := by
  induction fu generalizing st with
  | zero => exact le_none _
  | succ fu ih =>
    cases st
    · rw [HG57_s, G57.eq_1]
      unfold SG57
      dsimp only
      generalize HG57 fu Y = hh at ih ⊢
      repeat' (with_reducible first | exact ih _ | exact hY _ _ | exact leF58 fu _ _ | exact le_refl _ | apply le_ite | refine le_bind ?_ (fun _ => ?_))
    · rw [HG57_s, G57.eq_2]
      unfold SG57
      dsimp only
      generalize HG57 fu Y = hh at ih ⊢
      repeat' (with_reducible first | exact ih _ | exact hY _ _ | exact leF58 fu _ _ | exact le_refl _ | apply le_ite | refine le_bind ?_ (fun _ => ?_))
noncomputable def HF57 (fu : Nat) {σ : Type} (Y : Int → σ → Option (Bool × σ)) (d0_ : T34) (d1_ : Sl Int) (d2_ : Int) (d3_ : Str) (s_ : σ) : Option σ :=
 (if 0 ≤ ((ls d0_.Code).length : Int) ∧ ((ls d0_.Code).length : Int) = ((ls d0_.Code).length : Int) ∧ (1 : Int) * ((ls d0_.Code).length : Int) ≤ 281474976710656 then
  (HG57 fu Y (.p1 d0_ d2_ d3_ d1_ ((ls d1_).length : Int) 0 s_ ({ in_ := (some (List.replicate (Int.toNat ((ls d0_.Code).length : Int)) (false : Bool))), list := (none : Sl Int) } : T92)))
 else none)
theorem leF57 (fu : Nat) {σ : Type} (Y Y2 : Int → σ → Option (Bool × σ)) (d0_ : T34) (d1_ : Sl Int) (d2_ : Int) (d3_ : Str) (s_ : σ) (hY : ∀ a b, Le (Y a b) (Y2 a b)) : Le (HF57 fu Y d0_ d1_ d2_ d3_ s_) (F57 Y2 d0_ d1_ d2_ d3_ s_) := by
  unfold HF57 F57
  repeat' (with_reducible first | exact hY _ _ | exact leG57 fu _ _ (fun _ _ => by first | exact hY _ _ ) _ | exact le_refl _ | apply le_ite | refine le_bind ?_ (fun _ => ?_))
noncomputable def HB33_1 (fu : Nat) (p : T34) (s : Str) (t6_ : Sl Int) (now : Sl Int) (t24_ : T34) (t24_2 : Sl Int) (t24_3 : Int) (t24_4 : Str) (x : Int) (zz : (Sl Int) × Int × (Sl Int) × Nat) : Option (Bool × ((Sl Int) × Int × (Sl Int) × Nat)) := if zz.2.2.2 = 0 then
 (ix (ls p.Code) x >>= fun v_1 =>
  (if (v_1.Kind == 12) = true then
   (if ((ls zz.1).length + (ls (some ([zz.2.1] : List Int))).length) * 8 ≤ 140737488355328 then
    (some (true, (sapp zz.1 (ls (some ([zz.2.1] : List Int))), zz.2.1, zz.2.2.1, 0)))
   else none)
  else
   (if (v_1.Kind == 1) = true then
    (if (decide (zz.2.1 < ((s).length : Int))) = true then
     (ix s zz.2.1 >>= fun b_11 =>
      (HF44 fu v_1.Set (b_11.toNat : Int) >>= fun r_13 =>
       (if r_13 = true then
        (if ((ls zz.2.2.1).length + (ls (some ([IntKind.wrap .i64 (x + 1)] : List Int))).length) * 8 ≤ 140737488355328 then
         (some (true, (zz.1, zz.2.1, sapp zz.2.2.1 (ls (some ([IntKind.wrap .i64 (x + 1)] : List Int))), 0)))
        else none)
       else
        (some (true, (zz.1, zz.2.1, zz.2.2.1, 0))))))
    else
     (some (true, (zz.1, zz.2.1, zz.2.2.1, 0))))
   else
    (some (true, (zz.1, zz.2.1, zz.2.2.1, 0))))))
else none
theorem leB33_1 (fu : Nat) (p : T34) (s : Str) (t6_ : Sl Int) (now : Sl Int) (t24_ : T34) (t24_2 : Sl Int) (t24_3 : Int) (t24_4 : Str) (x : Int) (zz : (Sl Int) × Int × (Sl Int) × Nat) : Le (HB33_1 fu p s t6_ now t24_ t24_2 t24_3 t24_4 x zz) (B33_1 p s t6_ now t24_ t24_2 t24_3 t24_4 x zz) := by
  unfold HB33_1 B33_1
  repeat' (with_reducible first | exact leF44 fu _ _ | exact le_refl _ | apply le_ite | refine le_bind ?_ (fun _ => ?_))
noncomputable def SG33 (fu : Nat)  (ih : St33 → Option (Sl Int)) : St33 → Option (Sl Int) := fun st => match st with
 | .p1 p s t6_ now out place =>
  (if (decide (((ls now).length : Int) > 0)) = true then
   (HF43 fu p s place now >>= fun r_8 =>
    (ih (.p2 p s t6_ now r_8.1 r_8.2.1 r_8.2.2.1 r_8.2.2.2 out place (none : Sl Int))))
  else
   (some out))
 | .p2 p s t6_ now t24_ t24_2 t24_3 t24_4 out place next =>
  (HF57 fu (HB33_1 fu p s t6_ now t24_ t24_2 t24_3 t24_4) t24_ t24_2 t24_3 t24_4 (out, place, next, 0) >>= fun r_11 =>
   (if r_11.2.2.2 = 0 then
    (ih (.p1 p s t6_ r_11.2.2.1 r_11.1 (IntKind.wrap .i64 (r_11.2.1 + 1))))
   else
    none))
noncomputable def HG33 (fu : Nat)  : St33 → Option (Sl Int) :=
 Nat.rec (motive := fun _ => St33 → Option (Sl Int)) (fun _ => none) (fun fu ih => SG33 fu ih) fu
theorem HG33_s (fu : Nat)  (st : St33) : HG33 (fu + 1) st = SG33 fu (HG33 fu) st := rfl
theorem leG33 (fu : Nat) (st : St33) : Le (HG33 fu st) (G33 st) := by
  induction fu generalizing st with
  | zero => exact le_none _
  | succ fu ih =>
    cases st
    · rw [HG33_s, G33.eq_1]
      unfold SG33
      dsimp only
      generalize HG33 fu = hh at ih ⊢
      repeat' (with_reducible first | exact ih _ | exact leF43 fu _ _ _ _ | exact leF57 fu _ _ _ _ _ _ _ (fun _ _ => by first | exact leB33_1 fu _ _ _ _ _ _ _ _ _ _) | exact leB33_1 fu _ _ _ _ _ _ _ _ _ _ | exact le_refl _ | apply le_ite | refine le_bind ?_ (fun _ => ?_))
    · rw [HG33_s, G33.eq_2]
      unfold SG33
      dsimp only
      generalize HG33 fu = hh at ih ⊢
      repeat' (with_reducible first | exact ih _ | exact leF43 fu _ _ _ _ | exact leF57 fu _ _ _ _ _ _ _ (fun _ _ => by first | exact leB33_1 fu _ _ _ _ _ _ _ _ _ _) | exact leB33_1 fu _ _ _ _ _ _ _ _ _ _ | exact le_refl _ | apply le_ite | refine le_bind ?_ (fun _ => ?_))
noncomputable def HF33 (fu : Nat) (p : T34) (s : Str) (from_ : Int) : Option (Sl Int) :=
 (HG33 fu (.p1 p s none (some ([0] : List Int)) (none : Sl Int) from_))
theorem leF33 (fu : Nat) (p : T34) (s : Str) (from_ : Int) : Le (HF33 fu p s from_) (F33 p s from_) := by
  unfold HF33 F33
  repeat' (with_reducible first | exact leG33 fu _ | exact le_refl _ | apply le_ite | refine le_bind ?_ (fun _ => ?_))
noncomputable def HF56 (fu : Nat) (x_ : T52) : Option Bool :=
 (some (x_.Kind == 9))
theorem leF56 (fu : Nat) (x_ : T52) : Le (HF56 fu x_) (F56 x_) := by
  unfold HF56 F56
  repeat' (with_reducible first | exact le_refl _ | apply le_ite | refine le_bind ?_ (fun _ => ?_))
noncomputable def SG60 (fu : Nat)  (ih : St60 → Option Int) : St60 → Option Int := fun st => match st with
 | .p1 s t7_ t8_ =>
  (if (decide (t8_ < t7_)) = true then
   (ix (ls s) t8_ >>= fun v_2 =>
    (HF56 fu v_2 >>= fun r_4 =>
     (if r_4 = true then
      (some t8_)
     else
      (ih (.p1 s t7_ (IntKind.wrap .i64 (t8_ + 1)))))))
  else
   (some (-1)))
noncomputable def HG60 (fu : Nat)  : St60 → Option Int :=
 Nat.rec (motive := fun _ => St60 → Option Int) (fun _ => none) (fun fu ih => SG60 fu ih) fu
theorem HG60_s (fu : Nat)  (st : St60) : HG60 (fu + 1) st = SG60 fu (HG60 fu) st := rfl
theorem leG60 (fu : Nat) (st : St60) : Le (HG60 fu st) (G60 st) := by
  induction fu generalizing st with
  | zero => exact le_none _
  | succ fu ih =>
    cases st
    · rw [HG60_s, G60.eq_1]
      unfold SG60
      dsimp only
      generalize HG60 fu = hh at ih ⊢
      repeat' (with_reducible first | exact ih _ | exact leF56 fu _ | exact le_refl _ | apply le_ite | refine le_bind ?_ (fun _ => ?_))
noncomputable def HF60 (fu : Nat) (s : Sl T52) : Option Int :=
 (HG60 fu (.p1 s ((ls s).length : Int) 0))
theorem leF60 (fu : Nat) (s : Sl T52) : Le (HF60 fu s) (F60 s) := by
  unfold HF60 F60
  repeat' (with_reducible first | exact leG60 fu _ | exact le_refl _ | apply le_ite | refine le_bind ?_ (fun _ => ?_))
noncomputable def HF55 (fu : Nat) (s : Sl T52) : Option Bool :=
 (HF60 fu s >>= fun r_1 =>
  (some (decide (r_1 ≥ 0))))
theorem leF55 (fu : Nat) (s : Sl T52) : Le (HF55 fu s) (F55 s) := by
  unfold HF55 F55
  repeat' (with_reducible first | exact leF60 fu _ | exact le_refl _ | apply le_ite | refine le_bind ?_ (fun _ => ?_))
noncomputable def HF42 (fu : Nat) (p : T34) : Option Bool :=
 (HF55 fu p.Code >>= fun r_1 =>
  (some r_1))
theorem leF42 (fu : Nat) (p : T34) : Le (HF42 fu p) (F42 p) := by
  unfold HF42 F42
  repeat' (with_reducible first | exact leF55 fu _ | exact le_refl _ | apply le_ite | refine le_bind ?_ (fun _ => ?_))
noncomputable def SG11 (fu : Nat)  (ih : St11 → Option Bool) : St11 → Option Bool := fun st => match st with
 | .p1 p n t38_ t39_ t40_ =>
  (if (decide (t40_ < t39_)) = true then
   (ix (ls t38_) t40_ >>= fun v_8 =>
    (if (v_8.Kind == 1) = true then
     (ih (.p2 p n t40_ true t38_ t39_ t40_ v_8 ({ Kind := v_8.Kind, Set := v_8.Set, To := 0, Group := 0, Last := 0, Slot := 0 } : T52)))
    else
     (if (v_8.Kind == 2) = true then
      (ih (.p3 p n t40_ t38_ t39_ t40_ v_8 ({ Kind := v_8.Kind, Set := (Arr.rep 4 0), To := 0, Group := 0, Last := 0, Slot := 0 } : T52)))
     else
      (if (v_8.Kind == 3) = true then
       (ih (.p3 p n t40_ t38_ t39_ t40_ v_8 ({ Kind := v_8.Kind, Set := (Arr.rep 4 0), To := 0, Group := 0, Last := 0, Slot := 0 } : T52)))
      else
       (if (v_8.Kind == 4) = true then
        (ih (.p4 p n t40_ t38_ t39_ t40_ v_8 ({ Kind := v_8.Kind, Set := (Arr.rep 4 0), To := 0, Group := 0, Last := 0, Slot := 0 } : T52)))
       else
        (if (v_8.Kind == 5) = true then
         (ih (.p4 p n t40_ t38_ t39_ t40_ v_8 ({ Kind := v_8.Kind, Set := (Arr.rep 4 0), To := 0, Group := 0, Last := 0, Slot := 0 } : T52)))
        else
         (if (v_8.Kind == 9) = true then
          (ih (.p4 p n t40_ t38_ t39_ t40_ v_8 ({ Kind := v_8.Kind, Set := (Arr.rep 4 0), To := 0, Group := 0, Last := 0, Slot := 0 } : T52)))
         else
          (if (v_8.Kind == 6) = true then
           (if (decide (v_8.Group ≥ 1)) = true then
            (if (decide (v_8.Group ≤ p.Groups)) = true then
             (if (decide (v_8.Last ≥ v_8.Group)) = true then
              (ih (.p2 p n t40_ (decide (v_8.Last ≤ p.Groups)) t38_ t39_ t40_ v_8 ({ Kind := v_8.Kind, Set := (Arr.rep 4 0), To := 0, Group := v_8.Group, Last := v_8.Last, Slot := 0 } : T52)))
             else
              (ih (.p2 p n t40_ false t38_ t39_ t40_ v_8 ({ Kind := v_8.Kind, Set := (Arr.rep 4 0), To := 0, Group := v_8.Group, Last := v_8.Last, Slot := 0 } : T52))))
            else
             (ih (.p2 p n t40_ false t38_ t39_ t40_ v_8 ({ Kind := v_8.Kind, Set := (Arr.rep 4 0), To := 0, Group := v_8.Group, Last := v_8.Last, Slot := 0 } : T52))))
           else
            (ih (.p2 p n t40_ false t38_ t39_ t40_ v_8 ({ Kind := v_8.Kind, Set := (Arr.rep 4 0), To := 0, Group := v_8.Group, Last := v_8.Last, Slot := 0 } : T52))))
          else
           (if (v_8.Kind == 7) = true then
            (ih (.p5 p n t40_ t38_ t39_ t40_ v_8 ({ Kind := v_8.Kind, Set := (Arr.rep 4 0), To := 0, Group := 0, Last := 0, Slot := 0 } : T52)))
           else
            (if (v_8.Kind == 8) = true then
             (ih (.p5 p n t40_ t38_ t39_ t40_ v_8 ({ Kind := v_8.Kind, Set := (Arr.rep 4 0), To := 0, Group := 0, Last := 0, Slot := 0 } : T52)))
            else
             (if (v_8.Kind == 10) = true then
              (ih (.p2 p n t40_ true t38_ t39_ t40_ v_8 ({ Kind := v_8.Kind, Set := (Arr.rep 4 0), To := 0, Group := 0, Last := 0, Slot := 0 } : T52)))
             else
              (if (v_8.Kind == 11) = true then
               (ih (.p2 p n t40_ true t38_ t39_ t40_ v_8 ({ Kind := v_8.Kind, Set := (Arr.rep 4 0), To := 0, Group := 0, Last := 0, Slot := 0 } : T52)))
              else
               (if (v_8.Kind == 12) = true then
                (ih (.p2 p n t40_ true t38_ t39_ t40_ v_8 ({ Kind := v_8.Kind, Set := (Arr.rep 4 0), To := 0, Group := 0, Last := 0, Slot := 0 } : T52)))
               else
                (some false))))))))))))))
  else
   (some true))
 | .p2 p n i ok t38_ t39_ t40_ x_ plain =>
  (if (!ok) = true then
   (some false)
  else
   (if (!decide (plain = x_)) = true then
    (some false)
   else
    (if (!((x_.Kind == 12) == (i == (IntKind.wrap .i64 (n - 1))))) = true then
     (some false)
    else
     (ih (.p1 p n t38_ t39_ (IntKind.wrap .i64 (t40_ + 1)))))))
 | .p3 p n i t38_ t39_ t40_ x_ plain =>
  (if (decide (x_.To ≥ 0)) = true then
   (ih (.p2 p n i (decide (x_.To < n)) t38_ t39_ t40_ x_ ({ plain with To := x_.To } : T52)))
  else
   (ih (.p2 p n i false t38_ t39_ t40_ x_ ({ plain with To := x_.To } : T52))))
 | .p4 p n i t38_ t39_ t40_ x_ plain =>
  (if (decide (x_.Group ≥ 1)) = true then
   (ih (.p2 p n i (decide (x_.Group ≤ p.Groups)) t38_ t39_ t40_ x_ ({ plain with Group := x_.Group } : T52)))
  else
   (ih (.p2 p n i false t38_ t39_ t40_ x_ ({ plain with Group := x_.Group } : T52))))
 | .p5 p n i t38_ t39_ t40_ x_ plain =>
  (if (decide (x_.Slot ≥ 0)) = true then
   (ih (.p2 p n i (decide (x_.Slot < p.Slots)) t38_ t39_ t40_ x_ ({ plain with Slot := x_.Slot } : T52)))
  else
   (ih (.p2 p n i false t38_ t39_ t40_ x_ ({ plain with Slot := x_.Slot } : T52))))
noncomputable def HG11 (fu : Nat)  : St11 → Option Bool :=
 Nat.rec (motive := fun _ => St11 → Option Bool) (fun _ => none) (fun fu ih => SG11 fu ih) fu
theorem HG11_s (fu : Nat)  (st : St11) : HG11 (fu + 1) st = SG11 fu (HG11 fu) st := rfl
theorem leG11 (fu : Nat) (st : St11) : Le (HG11 fu st) (G11 st) := by
  induction fu generalizing st with
  | zero => exact le_none _
  | succ fu ih =>
    cases st
    · rw [HG11_s, G11.eq_1]
      unfold SG11
      dsimp only
      generalize HG11 fu = hh at ih ⊢
      repeat' (with_reducible first | exact ih _ | exact le_refl _ | apply le_ite | refine le_bind ?_ (fun _ => ?_))
    · rw [HG11_s, G11.eq_2]
      unfold SG11
      dsimp only
      generalize HG11 fu = hh at ih ⊢
      repeat' (with_reducible first | exact ih _ | exact le_refl _ | apply le_ite | refine le_bind ?_ (fun _ => ?_))
    · rw [HG11_s, G11.eq_3]
      unfold SG11
      dsimp only
      generalize HG11 fu = hh at ih ⊢
      repeat' (with_reducible first | exact ih _ | exact le_refl _ | apply le_ite | refine le_bind ?_ (fun _ => ?_))
    · rw [HG11_s, G11.eq_4]
      unfold SG11
      dsimp only
      generalize HG11 fu = hh at ih ⊢
      repeat' (with_reducible first | exact ih _ | exact le_refl _ | apply le_ite | refine le_bind ?_ (fun _ => ?_))
    · rw [HG11_s, G11.eq_5]
      unfold SG11
      dsimp only
      generalize HG11 fu = hh at ih ⊢
      repeat' (with_reducible first | exact ih _ | exact le_refl _ | apply le_ite | refine le_bind ?_ (fun _ => ?_))
noncomputable def HF11 (fu : Nat) (p : T34) : Option Bool :=
 (if (decide (p.Groups < 0)) = true then
  (some false)
 else
  (if (decide (p.Groups > 99)) = true then
   (some false)
  else
   (if (decide (p.Slots < 0)) = true then
    (some false)
   else
    (if (decide (p.Slots > 16384)) = true then
     (some false)
    else
     (if (decide (((ls p.Code).length : Int) < 1)) = true then
      (some false)
     else
      (if (decide (((ls p.Code).length : Int) > 16384)) = true then
       (some false)
      else
       (HG11 fu (.p1 p ((ls p.Code).length : Int) p.Code ((ls p.Code).length : Int) 0))))))))
theorem leF11 (fu : Nat) (p : T34) : Le (HF11 fu p) (F11 p) := by
  unfold HF11 F11
  repeat' (with_reducible first | exact leG11 fu _ | exact le_refl _ | apply le_ite | refine le_bind ?_ (fun _ => ?_))
noncomputable def HF32 (fu : Nat) (p : T34) : Option Int :=
 (HF11 fu p >>= fun r_1 =>
  (if (!r_1) = true then
   (some 100)
  else
   (HF42 fu p >>= fun r_4 =>
    (if r_4 = true then
     (some 101)
    else
     (some 0)))))
theorem leF32 (fu : Nat) (p : T34) : Le (HF32 fu p) (F32 p) := by
  unfold HF32 F32
  repeat' (with_reducible first | exact leF11 fu _ | exact leF42 fu _ | exact le_refl _ | apply le_ite | refine le_bind ?_ (fun _ => ?_))
noncomputable def SG23 (fu : Nat)  (ih : St23 → Option (T56 × Bool × Int)) : St23 → Option (T56 × Bool × Int) := fun st => match st with
 | .p1 t6_ =>
  (some (({ From := 0, To := 0 } : T56), false, 2))
 | .p2 s p i t6_ =>
  (if (decide (i ≤ ((s).length : Int))) = true then
   (HF33 fu p s i >>= fun r_8 =>
    (if (decide (((ls r_8).length : Int) > 0)) = true then
     (ix (ls r_8) (IntKind.wrap .i64 (((ls r_8).length : Int) - 1)) >>= fun v_11 =>
      (some (({ From := i, To := v_11 } : T56), true, 0)))
    else
     (ih (.p2 s p (IntKind.wrap .i64 (i + 1)) t6_))))
  else
   (some (({ From := 0, To := 0 } : T56), false, 0)))
noncomputable def HG23 (fu : Nat)  : St23 → Option (T56 × Bool × Int) :=
 Nat.rec (motive := fun _ => St23 → Option (T56 × Bool × Int)) (fun _ => none) (fun fu ih => SG23 fu ih) fu
theorem HG23_s (fu : Nat)  (st : St23) : HG23 (fu + 1) st = SG23 fu (HG23 fu) st := rfl
theorem leG23 (fu : Nat) (st : St23) : Le (HG23 fu st) (G23 st) := by
  induction fu generalizing st with
  | zero => exact le_none _
  | succ fu ih =>
    cases st
    · rw [HG23_s, G23.eq_1]
      unfold SG23
      dsimp only
      generalize HG23 fu = hh at ih ⊢
      repeat' (with_reducible first | exact ih _ | exact leF33 fu _ _ _ | exact le_refl _ | apply le_ite | refine le_bind ?_ (fun _ => ?_))
    · rw [HG23_s, G23.eq_2]
      unfold SG23
      dsimp only
      generalize HG23 fu = hh at ih ⊢
      repeat' (with_reducible first | exact ih _ | exact leF33 fu _ _ _ | exact le_refl _ | apply le_ite | refine le_bind ?_ (fun _ => ?_))
noncomputable def HF23 (fu : Nat) (p : T34) (s : Str) (from_ : Int) : Option (T56 × Bool × Int) :=
 (HF32 fu p >>= fun r_2 =>
  (if (r_2 != 0) = true then
   (some (({ From := 0, To := 0 } : T56), false, r_2))
  else
   (if (decide (from_ < 0)) = true then
    (HG23 fu (.p1 ({ From := 0, To := 0 } : T56)))
   else
    (if (decide (from_ > ((s).length : Int))) = true then
     (HG23 fu (.p1 ({ From := 0, To := 0 } : T56)))
    else
     (HG23 fu (.p2 s p from_ ({ From := 0, To := 0 } : T56)))))))
theorem leF23 (fu : Nat) (p : T34) (s : Str) (from_ : Int) : Le (HF23 fu p s from_) (F23 p s from_) := by
  unfold HF23 F23
  repeat' (with_reducible first | exact leF32 fu _ | exact leG23 fu _ | exact le_refl _ | apply le_ite | refine le_bind ?_ (fun _ => ?_))
noncomputable def HF8 (fu : Nat)  : Option Bool :=
 (HF10 fu ({ Kind := 5, Set := (Arr.rep 4 0), Min := 1, Max := (-1), Group := 0, Kids := (some ([({ Kind := 2, Set := (aset (aset (Arr.rep 4 0) 0 0) 1 8589934592), Min := 0, Max := 0, Group := 0, Kids := none } : T27)] : List T27)) } : T27) >>= fun r_3 =>
  (HF9 fu ({ Kind := 5, Set := (Arr.rep 4 0), Min := 1, Max := (-1), Group := 0, Kids := (some ([({ Kind := 2, Set := (aset (aset (Arr.rep 4 0) 0 0) 1 8589934592), Min := 0, Max := 0, Group := 0, Kids := none } : T27)] : List T27)) } : T27) >>= fun r_6 =>
   (HF23 fu r_3.1 ([98, 97, 97] : Str) 0 >>= fun r_8 =>
    (if (r_3.2 == 0) = true then
     (if (r_6.2 == 0) = true then
      (if (r_6.1 == 7) = true then
       (if (((ls r_3.1.Code).length : Int) == 7) = true then
        (if (r_8.2.2 == 0) = true then
         (if r_8.2.1 = true then
          (some (decide (r_8.1 = ({ From := 1, To := 3 } : T56))))
         else
          (some false))
        else
         (some false))
       else
        (some false))
      else
       (some false))
     else
      (some false))
    else
     (some false)))))
theorem leF8 (fu : Nat)  : Le (HF8 fu ) (F8 ) := by
  unfold HF8 F8
  repeat' (with_reducible first | exact leF10 fu _ | exact leF9 fu _ | exact leF23 fu _ _ _ | exact le_refl _ | apply le_ite | refine le_bind ?_ (fun _ => ?_))
end Go.Proofs.Ytjbafmnocopofaa
end
section
/-
  The small expression with which each law begins.
-/


namespace Go.Proofs.Ytjbafmnocopofaa
open Go AW
theorem f8 : F8 = some true := leF8 60 true (by kernel_rfl)
end Go.Proofs.Ytjbafmnocopofaa
end
section
/-
  NfaSizes, plain: a compiled program has just as many instructions as it is told to have, and is right; what is too great is refused by both.
-/



namespace Go.Proofs.Ytjbafmnocopofaa
open Go AW
set_option linter.unusedVariables false
set_option linter.unusedSimpArgs false
set_option maxHeartbeats 4000000
theorem pureNfaSizes (a0 : T27) (w0 : okr27 a0) : F3 a0 = some true := by
  unfold F3
  obtain ⟨r, hr, w, hw, h1, h2, h3⟩ := f10 a0
  obtain ⟨w', hw', u, hu, h4, h5⟩ := f9 a0
  rw [hw] at hw'
  cases hw'
  rw [f8, sm, if_neg (by simp), hw, sm, hr, sm, nfi h1.symm]
  by_cases h0 : w.2 = 0
  · obtain ⟨hg, hc, hsz, hw1, hp⟩ := h3 h0
    have hu0 : u = 0 := by
      by_cases e : u = 0
      · exact e
      · have := h4 e; rw [this] at h0; exact h0
    have hlen : (ls r.1.Code).length = sz a0 + 1 := by
      rw [hp]
      show (cd a0 0 0 ++ [ik 12]).length = _
      rw [List.length_append, cd_len a0 0 (by omega) hg]; rfl
    rw [eti h0, nfi (by rw [hlen, hw1]), dfi (by rw [hw1]; omega), dfi (by rw [hw1]; omega), hp, f11, sm, rp_prg hg hc hsz, if_neg (by simp), G3.eq_1, eti h0, hu, sm, eti hu0]
  · have hw1 : w.1 = 0 := by
      by_cases e : u = 0
      · obtain ⟨_, _, hwe⟩ := h5 e
        by_cases hs : sz a0 < 16384
        · rw [if_pos hs] at hwe; rw [hwe] at h0; exact absurd rfl h0
        · rw [if_neg hs] at hwe; rw [hwe]
      · rw [h4 e]
    rw [efi h0, G3.eq_1, efi h0, h2 h0, eti (by rfl), eti hw1, hu, sm]
    by_cases e : u = 0
    · rw [eti e]
    · rw [efi e, sm, h4 e]; simp
end Go.Proofs.Ytjbafmnocopofaa
end
