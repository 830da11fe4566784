/-
  The program's types.
-/
import Derived.Test.YtllhdbdbdblimaaDoorBl
import Derived.Test.YtllhdbdbdblimaaDoorFwS7
set_option linter.unusedVariables false
set_option maxRecDepth 4000
set_option maxHeartbeats 4000000
namespace Go.Proofs.YtllhdbdbdblimaaDoor
open Go AW
attribute [local irreducible] W WD SH XS XLoop DFun XCall
def c87 (a : Arr 14 Int) : List AV := cF (cI .u8) 0 a.l 14 0
theorem c87_len (a : Arr 14 Int) : (c87 a).length = 14 := rfl
instance (a : Arr 14 Int) : DtL (c87 a) := by unfold c87; infer_instance
theorem c87_one (a : Arr 14 Int) : (c87 a).all AV.one = true := rfl
def v87 (x : Arr 14 Int) : AV := .agg (c87 x)
instance (x : Arr 14 Int) : DtV (v87 x) := ⟨ds_agg (inferInstance : DtL (c87 x)).h⟩
instance : DtF v87 := ⟨fun x => (inferInstance : DtV (v87 x)).h⟩
def c77 (a : Arr 4 Str) : List AV := cF (cS) [] a.l 4 0
theorem c77_len (a : Arr 4 Str) : (c77 a).length = 4 := rfl
instance (a : Arr 4 Str) : DtL (c77 a) := by unfold c77; infer_instance
theorem c77_one (a : Arr 4 Str) : (c77 a).all AV.one = true := rfl
def v77 (x : Arr 4 Str) : AV := .agg (c77 x)
instance (x : Arr 4 Str) : DtV (v77 x) := ⟨ds_agg (inferInstance : DtL (c77 x)).h⟩
instance : DtF v77 := ⟨fun x => (inferInstance : DtV (v77 x)).h⟩
def c109 (a : Arr 20 Int) : List AV := cA (cI .u64) a
theorem c109_len (a : Arr 20 Int) : (c109 a).length = 20 := cA_len (es := 1) (cI_len .u64) a
instance (a : Arr 20 Int) : DtL (c109 a) := ⟨cA_ds (fun x => (inferInstance : DtL ((cI .u64) x)).h) a⟩
theorem c109_one (a : Arr 20 Int) : (c109 a).all AV.one = true := cA_one (cI_one .u64) a
def v109 (x : Arr 20 Int) : AV := .agg (c109 x)
instance (x : Arr 20 Int) : DtV (v109 x) := ⟨ds_agg (inferInstance : DtL (c109 x)).h⟩
instance : DtF v109 := ⟨fun x => (inferInstance : DtV (v109 x)).h⟩
structure T25 where
 Text : Str
 Whole : Bool
 deriving DecidableEq
def c25 (x : T25) : List AV := cS x.Text ++ (cB x.Whole)
theorem c25_len (x : T25) : (c25 x).length = 2 := rfl
theorem c25_one (x : T25) : (c25 x).all AV.one = true := rfl
def bk25 (x : T25) : Nat := bkS x.Text + bk1 x.Whole + 1
def ok25 (x : T25) : Prop := okT x.Text ∧ okT x.Whole
instance (x : T25) : DtL (c25 x) := by unfold c25; infer_instance
def v25 (x : T25) : AV := .agg (c25 x)
instance (x : T25) : DtV (v25 x) := ⟨ds_agg (inferInstance : DtL (c25 x)).h⟩
instance : DtF v25 := ⟨fun x => (inferInstance : DtV (v25 x)).h⟩
theorem c25_eq : EqC [.s, .b] c25 := fun x y => by
 refine (show AV.eqKs [.s, .b] (c25 x) (c25 y) = some _ from eqKs_app _ _ _ _ (eqC_S x.Text y.Text) _ _ _ _ (eqC_B x.Whole y.Whole)).trans ?_
 obtain ⟨x0, x1⟩ := x
 obtain ⟨y0, y1⟩ := y
 simp only [T25.mk.injEq, Bool.decide_and]
structure T54 where
 Kind : Int
 Line : T25
 deriving DecidableEq
def c54 (x : T54) : List AV := (cI .u8) x.Kind ++ (c25 x.Line)
theorem c54_len (x : T54) : (c54 x).length = 3 := rfl
theorem c54_one (x : T54) : (c54 x).all AV.one = true := rfl
def bk54 (x : T54) : Nat := bk1 x.Kind + bk25 x.Line + 1
def ok54 (x : T54) : Prop := okI .u8 x.Kind ∧ ok25 x.Line
instance (x : T54) : DtL (c54 x) := by unfold c54; infer_instance
def v54 (x : T54) : AV := .agg (c54 x)
instance (x : T54) : DtV (v54 x) := ⟨ds_agg (inferInstance : DtL (c54 x)).h⟩
instance : DtF v54 := ⟨fun x => (inferInstance : DtV (v54 x)).h⟩
theorem c54_eq : EqC [.i, .s, .b] c54 := fun x y => by
 refine (show AV.eqKs [.i, .s, .b] (c54 x) (c54 y) = some _ from eqKs_app _ _ _ _ ((eqC_I .u8) x.Kind y.Kind) _ _ _ _ (c25_eq x.Line y.Line)).trans ?_
 obtain ⟨x0, x1⟩ := x
 obtain ⟨y0, y1⟩ := y
 simp only [T54.mk.injEq, Bool.decide_and]
def c74 (a : Arr 2 Int) : List AV := cF (cI .i64) 0 a.l 2 0
theorem c74_len (a : Arr 2 Int) : (c74 a).length = 2 := rfl
instance (a : Arr 2 Int) : DtL (c74 a) := by unfold c74; infer_instance
theorem c74_one (a : Arr 2 Int) : (c74 a).all AV.one = true := rfl
def v74 (x : Arr 2 Int) : AV := .agg (c74 x)
instance (x : Arr 2 Int) : DtV (v74 x) := ⟨ds_agg (inferInstance : DtL (c74 x)).h⟩
instance : DtF v74 := ⟨fun x => (inferInstance : DtV (v74 x)).h⟩
def g1 : Arr 14 Int := (⟨[0, 0, 0, 0, 0, 0, 0, 97, 98, 116, 110, 118, 102, 114], rfl⟩ : Arr 14 Int)
def g0 : Arr 4 Str := (⟨[[], [32], [45], [43]], rfl⟩ : Arr 4 Str)
def g3 : Arr 20 Int := (⟨[1, 10, 100, 1000, 10000, 100000, 1000000, 10000000, 100000000, 1000000000, 10000000000, 100000000000, 1000000000000, 10000000000000, 100000000000000, 1000000000000000, 10000000000000000, 100000000000000000, 1000000000000000000, 10000000000000000000], rfl⟩ : Arr 20 Int)
def gE : Glob := fun g => if g = 1 then some (c87 g1) else if g = 0 then some (c77 g0) else if g = 3 then some (c109 g3) else none
end Go.Proofs.YtllhdbdbdblimaaDoor
