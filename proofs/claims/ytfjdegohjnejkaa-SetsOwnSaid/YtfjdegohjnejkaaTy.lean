/-
  The program's types.
-/
import Derived.Test.YtfjdegohjnejkaaFwS4
import Derived.Test.YtfjdegohjnejkaaFwS6
set_option linter.unusedVariables false
set_option maxRecDepth 4000
set_option maxHeartbeats 4000000
namespace Go.Proofs.Ytfjdegohjnejkaa
open Go AW
attribute [local irreducible] W WD SH XS XLoop DFun XCall
def c24 (a : Arr 4 Int) : List AV := cF (cI .u64) 0 a.l 4 0
theorem c24_len (a : Arr 4 Int) : (c24 a).length = 4 := rfl
instance (a : Arr 4 Int) : DtL (c24 a) := by unfold c24; infer_instance
theorem c24_one (a : Arr 4 Int) : (c24 a).all AV.one = true := rfl
def v24 (x : Arr 4 Int) : AV := .agg (c24 x)
instance (x : Arr 4 Int) : DtV (v24 x) := ⟨ds_agg (inferInstance : DtL (c24 x)).h⟩
instance : DtF v24 := ⟨fun x => (inferInstance : DtV (v24 x)).h⟩
structure T54 where
 set : Arr 4 Int
 c : Int
 one : Bool
 deriving DecidableEq
def c54 (x : T54) : List AV := c24 x.set ++ ((cI .u8) x.c ++ (cB x.one))
theorem c54_len (x : T54) : (c54 x).length = 6 := rfl
theorem c54_one (x : T54) : (c54 x).all AV.one = true := rfl
instance (x : T54) : DtL (c54 x) := by unfold c54; infer_instance
def v54 (x : T54) : AV := .agg (c54 x)
instance (x : T54) : DtV (v54 x) := ⟨ds_agg (inferInstance : DtL (c54 x)).h⟩
instance : DtF v54 := ⟨fun x => (inferInstance : DtV (v54 x)).h⟩
structure T52 where
 s : Str
 i : Int
 bad : Int
 deriving DecidableEq
def c52 (x : T52) : List AV := cS x.s ++ ((cI .i64) x.i ++ ((cI .i64) x.bad))
theorem c52_len (x : T52) : (c52 x).length = 3 := rfl
theorem c52_one (x : T52) : (c52 x).all AV.one = true := rfl
def bk52 (x : T52) : Nat := bkS x.s + bk1 x.i + bk1 x.bad + 1
def ok52 (x : T52) : Prop := okT x.s ∧ okI .i64 x.i ∧ okI .i64 x.bad
instance (x : T52) : DtL (c52 x) := by unfold c52; infer_instance
def v52 (x : T52) : AV := .agg (c52 x)
instance (x : T52) : DtV (v52 x) := ⟨ds_agg (inferInstance : DtL (c52 x)).h⟩
instance : DtF v52 := ⟨fun x => (inferInstance : DtV (v52 x)).h⟩
theorem c24_eq : EqC [.i, .i, .i, .i] c24 := eqC_F (eqC_I .u64) rfl
end Go.Proofs.Ytfjdegohjnejkaa
