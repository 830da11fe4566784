/-
  The program's types.
-/
import Derived.Test.YtfjdegohjnejkaaFwT3
set_option linter.unusedVariables false
set_option maxRecDepth 4000
set_option maxHeartbeats 4000000
namespace Go.Proofs.Ytfjdegohjnejkaa
open Go AW
attribute [local irreducible] At AtL AtO AtN AtX AtR AtD XS XLoop DFun XCall
/-- An array's cells. -/
def c24 (a : Arr 4 Int) : List AV := cA (cI .u64) a
theorem c24_len (a : Arr 4 Int) : (c24 a).length = 4 := cA_len (es := 1) (cI_len .u64) a
theorem c24_ds (a : Arr 4 Int) : DSL (c24 a) (c24 a) := cA_ds (cI_ds .u64) a
theorem c24_one (a : Arr 4 Int) : (c24 a).all AV.one = true := cA_one (cI_one .u64) a
theorem c24_eq : EqC [.i, .i, .i, .i] c24 := eqC_A (eqC_I .u64) rfl
structure T54 where
  set : Arr 4 Int
  c : Int
  one : Bool
  deriving DecidableEq
def c54 (x : T54) : List AV := c24 x.set ++ ((cI .u8) x.c ++ (cB x.one))
theorem c54_len (x : T54) : (c54 x).length = 6 := by simp only [c54, List.length_append, (cI_len .u8), c24_len, cB_len]
theorem c54_ds (x : T54) : DSL (c54 x) (c54 x) := (dsl_app (c24_ds x.set) (dsl_app ((cI_ds .u8) x.c) (cB_ds x.one)))
theorem c54_one (x : T54) : (c54 x).all AV.one = true := (one_app (c24_one x.set) (one_app ((cI_one .u8) x.c) (cB_one x.one)))
theorem c54_eq : EqC [.i, .i, .i, .i, .i, .b] c54 := fun x y => by
  refine (show AV.eqKs [.i, .i, .i, .i, .i, .b] (c54 x) (c54 y) = some _ from eqKs_app _ _ _ _ (c24_eq x.set y.set) _ _ _ _ (eqKs_app _ _ _ _ ((eqC_I .u8) x.c y.c) _ _ _ _ (eqC_B x.one y.one))).trans ?_
  obtain ⟨x0, x1, x2⟩ := x
  obtain ⟨y0, y1, y2⟩ := y
  simp only [T54.mk.injEq, Bool.decide_and]
theorem lr54_set (x : T54) (v : Arr 4 Int) : LR (c54 x) 0 (c24 x.set) (c24 v) (c54 { x with set := v }) :=
  ⟨[], (cI .u8) x.c ++ (cB x.one), by simp only [c54, List.append_assoc, List.nil_append, List.append_nil], by simp only [c54, List.append_assoc, List.nil_append, List.append_nil], by simp only [List.length_append, List.length_nil, (cI_len .u8), c24_len, cB_len]⟩
theorem lr54_c (x : T54) (v : Int) : LR (c54 x) 4 ((cI .u8) x.c) ((cI .u8) v) (c54 { x with c := v }) :=
  ⟨c24 x.set, cB x.one, by simp only [c54, List.append_assoc, List.nil_append, List.append_nil], by simp only [c54, List.append_assoc, List.nil_append, List.append_nil], by simp only [List.length_append, List.length_nil, (cI_len .u8), c24_len, cB_len]⟩
theorem lr54_one (x : T54) (v : Bool) : LR (c54 x) 5 (cB x.one) (cB v) (c54 { x with one := v }) :=
  ⟨c24 x.set ++ ((cI .u8) x.c), [], by simp only [c54, List.append_assoc, List.nil_append, List.append_nil], by simp only [c54, List.append_assoc, List.nil_append, List.append_nil], by simp only [List.length_append, List.length_nil, (cI_len .u8), c24_len, cB_len]⟩
abbrev v54 (x : T54) : AV := .agg (c54 x)
structure T52 where
  s : Str
  i : Int
  bad : Int
  deriving DecidableEq
def c52 (x : T52) : List AV := cS x.s ++ ((cI .i64) x.i ++ ((cI .i64) x.bad))
theorem c52_len (x : T52) : (c52 x).length = 3 := by simp only [c52, List.length_append, (cI_len .i64), cS_len]
theorem c52_ds (x : T52) : DSL (c52 x) (c52 x) := (dsl_app (cS_ds x.s) (dsl_app ((cI_ds .i64) x.i) ((cI_ds .i64) x.bad)))
theorem c52_one (x : T52) : (c52 x).all AV.one = true := (one_app (cS_one x.s) (one_app ((cI_one .i64) x.i) ((cI_one .i64) x.bad)))
theorem c52_eq : EqC [.s, .i, .i] c52 := fun x y => by
  refine (show AV.eqKs [.s, .i, .i] (c52 x) (c52 y) = some _ from eqKs_app _ _ _ _ (eqC_S x.s y.s) _ _ _ _ (eqKs_app _ _ _ _ ((eqC_I .i64) x.i y.i) _ _ _ _ ((eqC_I .i64) x.bad y.bad))).trans ?_
  obtain ⟨x0, x1, x2⟩ := x
  obtain ⟨y0, y1, y2⟩ := y
  simp only [T52.mk.injEq, Bool.decide_and]
theorem lr52_s (x : T52) (v : Str) : LR (c52 x) 0 (cS x.s) (cS v) (c52 { x with s := v }) :=
  ⟨[], (cI .i64) x.i ++ ((cI .i64) x.bad), by simp only [c52, List.append_assoc, List.nil_append, List.append_nil], by simp only [c52, List.append_assoc, List.nil_append, List.append_nil], by simp only [List.length_append, List.length_nil, (cI_len .i64), cS_len]⟩
theorem lr52_i (x : T52) (v : Int) : LR (c52 x) 1 ((cI .i64) x.i) ((cI .i64) v) (c52 { x with i := v }) :=
  ⟨cS x.s, (cI .i64) x.bad, by simp only [c52, List.append_assoc, List.nil_append, List.append_nil], by simp only [c52, List.append_assoc, List.nil_append, List.append_nil], by simp only [List.length_append, List.length_nil, (cI_len .i64), cS_len]⟩
theorem lr52_bad (x : T52) (v : Int) : LR (c52 x) 2 ((cI .i64) x.bad) ((cI .i64) v) (c52 { x with bad := v }) :=
  ⟨cS x.s ++ ((cI .i64) x.i), [], by simp only [c52, List.append_assoc, List.nil_append, List.append_nil], by simp only [c52, List.append_assoc, List.nil_append, List.append_nil], by simp only [List.length_append, List.length_nil, (cI_len .i64), cS_len]⟩
abbrev v52 (x : T52) : AV := .agg (c52 x)
end Go.Proofs.Ytfjdegohjnejkaa
