/-
  The program's types.
-/
import Derived.Test.YtllhdbdbdblimaaDoorBl
import Derived.Test.YtllhdbdbdblimaaDoorFwS6
set_option linter.unusedVariables false
set_option maxRecDepth 4000
set_option maxHeartbeats 4000000
namespace Go.Proofs.YtllhdbdbdblimaaDoor
open Go AW
attribute [local irreducible] W WD SH XS XLoop DFun XCall
def c87 (a : Arr 14 Int) : List AV := cF (cI .u8) 0 a.l 14 0
theorem c87_len (a : Arr 14 Int) : (c87 a).length = 14 := rfl
instance (a : Arr 14 Int) : DtL (c87 a) := by unfold c87; infer_instance
theorem c87_one (a : Arr 14 Int) : (c87 a).all AV.one = true := rfl
def v87 (x : Arr 14 Int) : AV := .agg (c87 x)
instance (x : Arr 14 Int) : DtV (v87 x) := ⟨ds_agg (inferInstance : DtL (c87 x)).h⟩
instance : DtF v87 := ⟨fun x => (inferInstance : DtV (v87 x)).h⟩
structure T25 where
 Text : Str
 Whole : Bool
 deriving DecidableEq
def c25 (x : T25) : List AV := cS x.Text ++ (cB x.Whole)
theorem c25_len (x : T25) : (c25 x).length = 2 := rfl
theorem c25_one (x : T25) : (c25 x).all AV.one = true := rfl
def bk25 (x : T25) : Nat := bkS x.Text + bk1 x.Whole + 1
def ok25 (x : T25) : Prop := okT x.Text ∧ okT x.Whole
instance (x : T25) : DtL (c25 x) := by unfold c25; infer_instance
def v25 (x : T25) : AV := .agg (c25 x)
instance (x : T25) : DtV (v25 x) := ⟨ds_agg (inferInstance : DtL (c25 x)).h⟩
instance : DtF v25 := ⟨fun x => (inferInstance : DtV (v25 x)).h⟩
theorem c25_eq : EqC [.s, .b] c25 := fun x y => by
 refine (show AV.eqKs [.s, .b] (c25 x) (c25 y) = some _ from eqKs_app _ _ _ _ (eqC_S x.Text y.Text) _ _ _ _ (eqC_B x.Whole y.Whole)).trans ?_
 obtain ⟨x0, x1⟩ := x
 obtain ⟨y0, y1⟩ := y
 simp only [T25.mk.injEq, Bool.decide_and]
def g1 : Arr 14 Int := (⟨[0, 0, 0, 0, 0, 0, 0, 97, 98, 116, 110, 118, 102, 114], rfl⟩ : Arr 14 Int)
def gE : Glob := fun g => if g = 1 then some (c87 g1) else none
end Go.Proofs.YtllhdbdbdblimaaDoor
