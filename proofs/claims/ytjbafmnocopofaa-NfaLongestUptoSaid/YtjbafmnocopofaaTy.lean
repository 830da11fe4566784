/-
  The program's types.
-/
import Derived.Test.YtjbafmnocopofaaFwS4
import Derived.Test.YtjbafmnocopofaaFwS8
set_option linter.unusedVariables false
set_option maxRecDepth 4000
set_option maxHeartbeats 4000000
namespace Go.Proofs.Ytjbafmnocopofaa
open Go AW
attribute [local irreducible] W WD SH XS XLoop DFun XCall XYield
def c24 (a : Arr 4 Int) : List AV := cF (cI .u64) 0 a.l 4 0
theorem c24_len (a : Arr 4 Int) : (c24 a).length = 4 := rfl
instance (a : Arr 4 Int) : DtL (c24 a) := by unfold c24; infer_instance
theorem c24_one (a : Arr 4 Int) : (c24 a).all AV.one = true := rfl
def v24 (x : Arr 4 Int) : AV := .agg (c24 x)
instance (x : Arr 4 Int) : DtV (v24 x) := ⟨ds_agg (inferInstance : DtL (c24 x)).h⟩
instance : DtF v24 := ⟨fun x => (inferInstance : DtV (v24 x)).h⟩
theorem c24_eq : EqC [.i, .i, .i, .i] c24 := eqC_F (eqC_I .u64) rfl
structure T27 where
 Kind : Int
 Set : Arr 4 Int
 Min : Int
 Max : Int
 Group : Int
 Kids : Option (List T27)
mutual
def c27 : T27 → List AV
 | ⟨x0, x1, x2, x3, x4, x5⟩ => (cI .u8) x0 ++ (c24 x1 ++ ((cI .i64) x2 ++ ((cI .i64) x3 ++ ((cI .i64) x4 ++ ([kk27 x5])))))
def kk27 : Option (List T27) → AV
 | none => .nils
 | some l => .sl 9 (ll27 l) none
def ll27 : List T27 → List AV
 | [] => []
 | x :: l => .agg (c27 x) :: ll27 l
end
def v27 (x : T27) : AV := .agg (c27 x)
theorem ll27_map : ∀ l : List T27, ll27 l = l.map v27
 | [] => by rw [ll27]; rfl
 | x :: l => by rw [ll27, ll27_map l]; rfl
theorem kk27_sl (o : Option (List T27)) : kk27 o = slV 9 v27 o := by
 cases o with
 | none => rw [kk27]; rfl
 | some l => rw [kk27, ll27_map]; rfl
theorem c27_eq (x : T27) : c27 x = (cI .u8) x.Kind ++ (c24 x.Set ++ ((cI .i64) x.Min ++ ((cI .i64) x.Max ++ ((cI .i64) x.Group ++ ((cSl 9 v27) x.Kids))))) := by
 obtain ⟨x0, x1, x2, x3, x4, x5⟩ := x
 rw [c27, kk27_sl]
 rfl
theorem c27_len (x : T27) : (c27 x).length = 9 := by rw [c27_eq]; simp only [List.length_append, (cI_len .i64), (cI_len .u8), c24_len, cSl_len]
theorem c27_one (x : T27) : (c27 x).all AV.one = true := by rw [c27_eq]; exact (one_app ((cI_one .u8) x.Kind) (one_app (c24_one x.Set) (one_app ((cI_one .i64) x.Min) (one_app ((cI_one .i64) x.Max) (one_app ((cI_one .i64) x.Group) (cSl_one x.Kids))))))
theorem lrg27_Kind (x : T27) : LR (c27 x) 0 ((cI .u8) x.Kind) ((cI .u8) x.Kind) (c27 x) :=
 ⟨[], c24 x.Set ++ ((cI .i64) x.Min ++ ((cI .i64) x.Max ++ ((cI .i64) x.Group ++ ((cSl 9 v27) x.Kids)))), by rw [c27_eq]; simp only [List.append_assoc, List.nil_append, List.append_nil], by rw [c27_eq]; simp only [List.append_assoc, List.nil_append, List.append_nil], by simp only [List.length_append, List.length_nil, (cI_len .i64), (cI_len .u8), c24_len, cSl_len]⟩
theorem lr27_Kind (x : T27) (v : Int) : LR (c27 x) 0 ((cI .u8) x.Kind) ((cI .u8) v) (c27 { x with Kind := v }) :=
 ⟨[], c24 x.Set ++ ((cI .i64) x.Min ++ ((cI .i64) x.Max ++ ((cI .i64) x.Group ++ ((cSl 9 v27) x.Kids)))), by rw [c27_eq]; simp only [List.append_assoc, List.nil_append, List.append_nil], by rw [c27_eq]; simp only [List.append_assoc, List.nil_append, List.append_nil], by simp only [List.length_append, List.length_nil, (cI_len .i64), (cI_len .u8), c24_len, cSl_len]⟩
theorem lrg27_Set (x : T27) : LR (c27 x) 1 (c24 x.Set) (c24 x.Set) (c27 x) :=
 ⟨(cI .u8) x.Kind, (cI .i64) x.Min ++ ((cI .i64) x.Max ++ ((cI .i64) x.Group ++ ((cSl 9 v27) x.Kids))), by rw [c27_eq]; simp only [List.append_assoc, List.nil_append, List.append_nil], by rw [c27_eq]; simp only [List.append_assoc, List.nil_append, List.append_nil], by simp only [List.length_append, List.length_nil, (cI_len .i64), (cI_len .u8), c24_len, cSl_len]⟩
theorem lr27_Set (x : T27) (v : Arr 4 Int) : LR (c27 x) 1 (c24 x.Set) (c24 v) (c27 { x with Set := v }) :=
 ⟨(cI .u8) x.Kind, (cI .i64) x.Min ++ ((cI .i64) x.Max ++ ((cI .i64) x.Group ++ ((cSl 9 v27) x.Kids))), by rw [c27_eq]; simp only [List.append_assoc, List.nil_append, List.append_nil], by rw [c27_eq]; simp only [List.append_assoc, List.nil_append, List.append_nil], by simp only [List.length_append, List.length_nil, (cI_len .i64), (cI_len .u8), c24_len, cSl_len]⟩
theorem lrg27_Min (x : T27) : LR (c27 x) 5 ((cI .i64) x.Min) ((cI .i64) x.Min) (c27 x) :=
 ⟨(cI .u8) x.Kind ++ (c24 x.Set), (cI .i64) x.Max ++ ((cI .i64) x.Group ++ ((cSl 9 v27) x.Kids)), by rw [c27_eq]; simp only [List.append_assoc, List.nil_append, List.append_nil], by rw [c27_eq]; simp only [List.append_assoc, List.nil_append, List.append_nil], by simp only [List.length_append, List.length_nil, (cI_len .i64), (cI_len .u8), c24_len, cSl_len]⟩
theorem lr27_Min (x : T27) (v : Int) : LR (c27 x) 5 ((cI .i64) x.Min) ((cI .i64) v) (c27 { x with Min := v }) :=
 ⟨(cI .u8) x.Kind ++ (c24 x.Set), (cI .i64) x.Max ++ ((cI .i64) x.Group ++ ((cSl 9 v27) x.Kids)), by rw [c27_eq]; simp only [List.append_assoc, List.nil_append, List.append_nil], by rw [c27_eq]; simp only [List.append_assoc, List.nil_append, List.append_nil], by simp only [List.length_append, List.length_nil, (cI_len .i64), (cI_len .u8), c24_len, cSl_len]⟩
theorem lrg27_Max (x : T27) : LR (c27 x) 6 ((cI .i64) x.Max) ((cI .i64) x.Max) (c27 x) :=
 ⟨(cI .u8) x.Kind ++ (c24 x.Set ++ ((cI .i64) x.Min)), (cI .i64) x.Group ++ ((cSl 9 v27) x.Kids), by rw [c27_eq]; simp only [List.append_assoc, List.nil_append, List.append_nil], by rw [c27_eq]; simp only [List.append_assoc, List.nil_append, List.append_nil], by simp only [List.length_append, List.length_nil, (cI_len .i64), (cI_len .u8), c24_len, cSl_len]⟩
theorem lr27_Max (x : T27) (v : Int) : LR (c27 x) 6 ((cI .i64) x.Max) ((cI .i64) v) (c27 { x with Max := v }) :=
 ⟨(cI .u8) x.Kind ++ (c24 x.Set ++ ((cI .i64) x.Min)), (cI .i64) x.Group ++ ((cSl 9 v27) x.Kids), by rw [c27_eq]; simp only [List.append_assoc, List.nil_append, List.append_nil], by rw [c27_eq]; simp only [List.append_assoc, List.nil_append, List.append_nil], by simp only [List.length_append, List.length_nil, (cI_len .i64), (cI_len .u8), c24_len, cSl_len]⟩
theorem lrg27_Group (x : T27) : LR (c27 x) 7 ((cI .i64) x.Group) ((cI .i64) x.Group) (c27 x) :=
 ⟨(cI .u8) x.Kind ++ (c24 x.Set ++ ((cI .i64) x.Min ++ ((cI .i64) x.Max))), (cSl 9 v27) x.Kids, by rw [c27_eq]; simp only [List.append_assoc, List.nil_append, List.append_nil], by rw [c27_eq]; simp only [List.append_assoc, List.nil_append, List.append_nil], by simp only [List.length_append, List.length_nil, (cI_len .i64), (cI_len .u8), c24_len, cSl_len]⟩
theorem lr27_Group (x : T27) (v : Int) : LR (c27 x) 7 ((cI .i64) x.Group) ((cI .i64) v) (c27 { x with Group := v }) :=
 ⟨(cI .u8) x.Kind ++ (c24 x.Set ++ ((cI .i64) x.Min ++ ((cI .i64) x.Max))), (cSl 9 v27) x.Kids, by rw [c27_eq]; simp only [List.append_assoc, List.nil_append, List.append_nil], by rw [c27_eq]; simp only [List.append_assoc, List.nil_append, List.append_nil], by simp only [List.length_append, List.length_nil, (cI_len .i64), (cI_len .u8), c24_len, cSl_len]⟩
theorem lrg27_Kids (x : T27) : LR (c27 x) 8 ((cSl 9 v27) x.Kids) ((cSl 9 v27) x.Kids) (c27 x) :=
 ⟨(cI .u8) x.Kind ++ (c24 x.Set ++ ((cI .i64) x.Min ++ ((cI .i64) x.Max ++ ((cI .i64) x.Group)))), [], by rw [c27_eq]; simp only [List.append_assoc, List.nil_append, List.append_nil], by rw [c27_eq]; simp only [List.append_assoc, List.nil_append, List.append_nil], by simp only [List.length_append, List.length_nil, (cI_len .i64), (cI_len .u8), c24_len, cSl_len]⟩
theorem lr27_Kids (x : T27) (v : Option (List T27)) : LR (c27 x) 8 ((cSl 9 v27) x.Kids) ((cSl 9 v27) v) (c27 { x with Kids := v }) :=
 ⟨(cI .u8) x.Kind ++ (c24 x.Set ++ ((cI .i64) x.Min ++ ((cI .i64) x.Max ++ ((cI .i64) x.Group)))), [], by rw [c27_eq]; simp only [List.append_assoc, List.nil_append, List.append_nil], by rw [c27_eq]; simp only [List.append_assoc, List.nil_append, List.append_nil], by simp only [List.length_append, List.length_nil, (cI_len .i64), (cI_len .u8), c24_len, cSl_len]⟩
mutual
theorem c27_ds : ∀ x : T27, DSL (c27 x) (c27 x)
 | ⟨x0, x1, x2, x3, x4, x5⟩ => by rw [c27]; exact (dsl_app (inferInstance : DtL ((cI .u8) x0)).h (dsl_app (inferInstance : DtL (c24 x1)).h (dsl_app (inferInstance : DtL ((cI .i64) x2)).h (dsl_app (inferInstance : DtL ((cI .i64) x3)).h (dsl_app (inferInstance : DtL ((cI .i64) x4)).h (dsl_cons (kk27_ds x5) dsl_nil))))))
theorem kk27_ds : ∀ o : Option (List T27), DS (kk27 o) (kk27 o)
 | none => by rw [kk27]; exact ⟨rfl, rfl⟩
 | some l => by rw [kk27]; exact ⟨by simp only [AV.data]; exact (ll27_ds l).1, by simp only [AV.strip]; rw [(ll27_ds l).2]⟩
theorem ll27_ds : ∀ l : List T27, DSL (ll27 l) (ll27 l)
 | [] => by rw [ll27]; exact dsl_nil
 | x :: l => by rw [ll27]; exact dsl_cons (ds_agg (c27_ds x)) (ll27_ds l)
end
instance (x : T27) : DtL (c27 x) := ⟨c27_ds x⟩
instance (x : T27) : DtV (v27 x) := ⟨ds_agg (c27_ds x)⟩
instance : DtF v27 := ⟨fun x => (inferInstance : DtV (v27 x)).h⟩
def bx45_r (i : Nat) (x : Sl Bool) : Asn := bx1 fun j0 => [pt i (.cells ([rvV 1 x j0])), rvA cB j0 x]
structure T52 where
 Kind : Int
 Set : Arr 4 Int
 To : Int
 Group : Int
 Last : Int
 Slot : Int
 deriving DecidableEq
def c52 (x : T52) : List AV := (cI .u8) x.Kind ++ (c24 x.Set ++ ((cI .i64) x.To ++ ((cI .i64) x.Group ++ ((cI .i64) x.Last ++ ((cI .i64) x.Slot)))))
theorem c52_len (x : T52) : (c52 x).length = 9 := rfl
theorem c52_one (x : T52) : (c52 x).all AV.one = true := rfl
instance (x : T52) : DtL (c52 x) := by unfold c52; infer_instance
def v52 (x : T52) : AV := .agg (c52 x)
instance (x : T52) : DtV (v52 x) := ⟨ds_agg (inferInstance : DtL (c52 x)).h⟩
instance : DtF v52 := ⟨fun x => (inferInstance : DtV (v52 x)).h⟩
structure T65 where
 code : Sl T52
 slots : Int
 free : Int
def c65 (x : T65) : List AV := (cSl 9 v52) x.code ++ ((cI .i64) x.slots ++ ((cI .i64) x.free))
theorem c65_len (x : T65) : (c65 x).length = 3 := rfl
theorem c65_one (x : T65) : (c65 x).all AV.one = true := (one_app (cSl_one x.code) (one_app ((cI_one .i64) x.slots) ((cI_one .i64) x.free)))
instance (x : T65) : DtL (c65 x) := by unfold c65; infer_instance
def v65 (x : T65) : AV := .agg (c65 x)
instance (x : T65) : DtV (v65 x) := ⟨ds_agg (inferInstance : DtL (c65 x)).h⟩
instance : DtF v65 := ⟨fun x => (inferInstance : DtV (v65 x)).h⟩
def bx65_0r (i : Nat) (x : T65) : Asn := bx1 fun j0 => [pt i (.cells ([rvV 9 x.code j0] ++ ((cI .i64) (x.slots) ++ ((cI .i64) (x.free))))), rvA c52 j0 x.code]
structure T92 where
 in_ : Sl Bool
 list : Sl Int
def c92 (x : T92) : List AV := (cSl 1 AV.bool) x.in_ ++ ((cSl 1 (AV.int .i64)) x.list)
theorem c92_len (x : T92) : (c92 x).length = 2 := rfl
theorem c92_one (x : T92) : (c92 x).all AV.one = true := (one_app (cSl_one x.in_) (cSl_one x.list))
instance (x : T92) : DtL (c92 x) := by unfold c92; infer_instance
def v92 (x : T92) : AV := .agg (c92 x)
instance (x : T92) : DtV (v92 x) := ⟨ds_agg (inferInstance : DtL (c92 x)).h⟩
instance : DtF v92 := ⟨fun x => (inferInstance : DtV (v92 x)).h⟩
def bx92_0r1o (i : Nat) (x : T92) : Asn := bx2 fun j0 j1 => [pt i (.cells ([rvV 1 x.in_ j0] ++ ([ownV 1 (AV.int .i64) x.list j1]))), rvA cB j0 x.in_, ownA j1 x.list]
structure T34 where
 Groups : Int
 Slots : Int
 Code : Sl T52
def c34 (x : T34) : List AV := (cI .i64) x.Groups ++ ((cI .i64) x.Slots ++ ((cSl 9 v52) x.Code))
theorem c34_len (x : T34) : (c34 x).length = 3 := rfl
theorem c34_one (x : T34) : (c34 x).all AV.one = true := (one_app ((cI_one .i64) x.Groups) (one_app ((cI_one .i64) x.Slots) (cSl_one x.Code)))
instance (x : T34) : DtL (c34 x) := by unfold c34; infer_instance
def v34 (x : T34) : AV := .agg (c34 x)
instance (x : T34) : DtV (v34 x) := ⟨ds_agg (inferInstance : DtL (c34 x)).h⟩
instance : DtF v34 := ⟨fun x => (inferInstance : DtV (v34 x)).h⟩
def bx42_o (i : Nat) (x : Sl Int) : Asn := bx1 fun j0 => [pt i (.cells ([ownV 1 (AV.int .i64) x j0])), ownA j0 x]
theorem c52_eq : EqC [.i, .i, .i, .i, .i, .i, .i, .i, .i] c52 := fun x y => by
 refine (show AV.eqKs [.i, .i, .i, .i, .i, .i, .i, .i, .i] (c52 x) (c52 y) = some _ from eqKs_app _ _ _ _ ((eqC_I .u8) x.Kind y.Kind) _ _ _ _ (eqKs_app _ _ _ _ (c24_eq x.Set y.Set) _ _ _ _ (eqKs_app _ _ _ _ ((eqC_I .i64) x.To y.To) _ _ _ _ (eqKs_app _ _ _ _ ((eqC_I .i64) x.Group y.Group) _ _ _ _ (eqKs_app _ _ _ _ ((eqC_I .i64) x.Last y.Last) _ _ _ _ ((eqC_I .i64) x.Slot y.Slot)))))).trans ?_
 obtain ⟨x0, x1, x2, x3, x4, x5⟩ := x
 obtain ⟨y0, y1, y2, y3, y4, y5⟩ := y
 simp only [T52.mk.injEq, Bool.decide_and]
structure T56 where
 From : Int
 To : Int
 deriving DecidableEq
def c56 (x : T56) : List AV := (cI .i64) x.From ++ ((cI .i64) x.To)
theorem c56_len (x : T56) : (c56 x).length = 2 := rfl
theorem c56_one (x : T56) : (c56 x).all AV.one = true := rfl
def bk56 (x : T56) : Nat := bk1 x.From + bk1 x.To + 1
def ok56 (x : T56) : Prop := okI .i64 x.From ∧ okI .i64 x.To
instance (x : T56) : DtL (c56 x) := by unfold c56; infer_instance
def v56 (x : T56) : AV := .agg (c56 x)
instance (x : T56) : DtV (v56 x) := ⟨ds_agg (inferInstance : DtL (c56 x)).h⟩
instance : DtF v56 := ⟨fun x => (inferInstance : DtV (v56 x)).h⟩
def bx34_2o (i : Nat) (x : T34) : Asn := bx1 fun j0 => [pt i (.cells ((cI .i64) (x.Groups) ++ ((cI .i64) (x.Slots) ++ ([ownV 9 v52 x.Code j0])))), ownA j0 x.Code]
theorem c56_eq : EqC [.i, .i] c56 := fun x y => by
 refine (show AV.eqKs [.i, .i] (c56 x) (c56 y) = some _ from eqKs_app _ _ _ _ ((eqC_I .i64) x.From y.From) _ _ _ _ ((eqC_I .i64) x.To y.To)).trans ?_
 obtain ⟨x0, x1⟩ := x
 obtain ⟨y0, y1⟩ := y
 simp only [T56.mk.injEq, Bool.decide_and]
end Go.Proofs.Ytjbafmnocopofaa
