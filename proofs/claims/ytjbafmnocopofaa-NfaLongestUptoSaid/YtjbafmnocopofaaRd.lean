/-
  Readers of the arguments' types.
-/
import Derived.Test.YtjbafmnocopofaaFwRd
import Derived.Test.YtjbafmnocopofaaTy
import Derived.KernelRfl
namespace Go.Proofs.Ytjbafmnocopofaa
open Go AW
set_option linter.unusedVariables false
set_option linter.unusedSimpArgs false
set_option maxRecDepth 100000
theorem rf0 {H : Type} {enc : TypeId × Value → H} {P : Program} {W : World} {base : Nat} {t : TypeId} {α : Type} {c : α → List AV} {ok : α → Prop} {bk : α → Nat} : RdF 0 enc P W base t c ok bk := ⟨fun {fuel cs x} h e => by
  obtain rfl : fuel = 0 := by omega
  simp [DataW.trod] at e⟩
theorem rfS1 {H : Type} {enc : TypeId × Value → H} {P : Program} {W : World} {base : Nat} {t : TypeId} {α : Type} {c : α → List AV} {ok : α → Prop} {bk : α → Nat} (n : Nat) (h : ∀ m, m < n → RdF (m + 1) enc P W base t c ok bk) : RdF n enc P W base t c ok bk := by
  cases n with
  | zero => exact rf0
  | succ m => exact h m (by omega)
def okr52 (x : T52) : Prop := okI .u8 x.Kind ∧ okA .u64 x.Set ∧ okI .i64 x.To ∧ okI .i64 x.Group ∧ okI .i64 x.Last ∧ okI .i64 x.Slot ∧ True
def bkr52 (x : T52) : Nat := (bk1 x.Kind + (bk1 x.Set + (bk1 x.To + (bk1 x.Group + (bk1 x.Last + (bk1 x.Slot + 0)))))) + 1
section
variable {H : Type} {enc : TypeId × Value → H} {W : World} {base : Nat}
theorem rdr52 (n : Nat) : RdF n enc Try.prog W base 53 c52 okr52 bkr52 := by
 cases n with
 | zero => exact rf0
 | succ n => exact rfT (m := 9) (c' := c52) (ok' := okr52) (bk' := bkr52) (γ := Int × (Arr 4 Int) × Int × Int × Int × Int × Unit) (fun a => T52.mk a.1 a.2.1 a.2.2.1 a.2.2.2.1 a.2.2.2.2.1 a.2.2.2.2.2.1) Try.underlying53 (by kernel_rfl) (rtCons (i := 0) (o := 0) (o' := 1) rfl (by kernel_rfl) (by kernel_rfl) (rfI Try.underlying51) (rtCons (i := 1) (o := 1) (o' := 5) rfl (by kernel_rfl) (by kernel_rfl) (rfA (c := c24) (fun a => cF_A (cI .u64) 0 a) Try.underlying25 Try.underlying23 (by kernel_rfl) (by kernel_rfl)) (rtCons (i := 2) (o := 5) (o' := 6) rfl (by kernel_rfl) (by kernel_rfl) (rfI Try.underlying3) (rtCons (i := 3) (o := 6) (o' := 7) rfl (by kernel_rfl) (by kernel_rfl) (rfI Try.underlying3) (rtCons (i := 4) (o := 7) (o' := 8) rfl (by kernel_rfl) (by kernel_rfl) (rfI Try.underlying3) (rtCons (i := 5) (o := 8) (o' := 9) rfl (by kernel_rfl) (by kernel_rfl) (rfI Try.underlying3) rtNil)))))) (fun a => by unfold c52; simp only [List.append_nil]) (fun a h => h) (fun a => Nat.le_refl _)
end
def okr34 (x : T34) : Prop := okI .i64 x.Groups ∧ okI .i64 x.Slots ∧ (fun o => ∀ x ∈ ls o, okr52 x) x.Code ∧ True
def bkr34 (x : T34) : Nat := (bk1 x.Groups + (bk1 x.Slots + (bkSl bkr52 x.Code + 0))) + 1
section
variable {H : Type} {enc : TypeId × Value → H} {W : World} {base : Nat}
theorem rdr34 (n : Nat) : RdF n enc Try.prog W base 35 c34 okr34 bkr34 := by
 cases n with
 | zero => exact rf0
 | succ n => exact rfT (m := 3) (c' := c34) (ok' := okr34) (bk' := bkr34) (γ := Int × Int × (Sl T52) × Unit) (fun a => T34.mk a.1 a.2.1 a.2.2.1) Try.underlying35 (by kernel_rfl) (rtCons (i := 0) (o := 0) (o' := 1) rfl (by kernel_rfl) (by kernel_rfl) (rfI Try.underlying3) (rtCons (i := 1) (o := 1) (o' := 2) rfl (by kernel_rfl) (by kernel_rfl) (rfI Try.underlying3) (rtCons (i := 2) (o := 2) (o' := 3) rfl (by kernel_rfl) (by kernel_rfl) (rfS1 n fun m hm => rfSl (es := 9) (f := v52) Try.underlying33 (by kernel_rfl) (by decide) (rdr52 _) agg_rep) rtNil))) (fun a => by unfold c34; simp only [List.append_nil]) (fun a h => h) (fun a => Nat.le_refl _)
end
mutual
def okr27 : T27 → Prop
 | ⟨x0, x1, x2, x3, x4, x5⟩ => okI .u8 x0 ∧ okA .u64 x1 ∧ okI .i64 x2 ∧ okI .i64 x3 ∧ okI .i64 x4 ∧ okro27 x5 ∧ True
def okro27 : Option (List T27) → Prop
 | none => True
 | some l => okrl27 l
def okrl27 : List T27 → Prop
 | [] => True
 | x :: l => okr27 x ∧ okrl27 l
end
mutual
def bkr27 : T27 → Nat
 | ⟨x0, x1, x2, x3, x4, x5⟩ => (bk1 x0 + (bk1 x1 + (bk1 x2 + (bk1 x3 + (bk1 x4 + (bkro27 x5 + 0)))))) + 1
def bkro27 : Option (List T27) → Nat
 | none => 1
 | some l => bkrl27 l + 1
def bkrl27 : List T27 → Nat
 | [] => 0
 | x :: l => bkr27 x + bkrl27 l
end
theorem okrl27_iff : ∀ l : List T27, okrl27 l ↔ ∀ x ∈ l, okr27 x
 | [] => by simp [okrl27]
 | x :: l => by simp [okrl27, okrl27_iff l]
theorem okro27_iff (o : Option (List T27)) : okro27 o ↔ ∀ x ∈ ls o, okr27 x := by
 cases o with
 | none => simp [okro27, ls]
 | some l => rw [okro27, okrl27_iff]; rfl
theorem bkrl27_sum : ∀ l : List T27, bkrl27 l = (l.map bkr27).sum
 | [] => rfl
 | x :: l => by rw [bkrl27, bkrl27_sum l]; rfl
theorem bkro27_eq (o : Option (List T27)) : bkro27 o = bkSl bkr27 o := by
 cases o with
 | none => rfl
 | some l => rw [bkro27, bkrl27_sum]; rfl
section
variable {H : Type} {enc : TypeId × Value → H} {W : World} {base : Nat}
theorem rdr27 : ∀ n, RdF n enc Try.prog W base 28 c27 okr27 bkr27 := by
 intro n
 induction n using Nat.strongRecOn with
 | _ n jh =>
  cases n with
  | zero => exact rf0
  | succ n =>
   have ih : ∀ m, m < n → RdF m enc Try.prog W base 28 c27 okr27 bkr27 := fun m h => jh m (by omega)
   exact rfT (m := 9) (c' := c27) (ok' := okr27) (bk' := bkr27) (γ := Int × (Arr 4 Int) × Int × Int × Int × Option (List T27) × Unit) (fun a => T27.mk a.1 a.2.1 a.2.2.1 a.2.2.2.1 a.2.2.2.2.1 a.2.2.2.2.2.1) Try.underlying28 (by kernel_rfl) (rtCons (i := 0) (o := 0) (o' := 1) rfl (by kernel_rfl) (by kernel_rfl) (rfI Try.underlying22) (rtCons (i := 1) (o := 1) (o' := 5) rfl (by kernel_rfl) (by kernel_rfl) (rfA (c := c24) (fun a => cF_A (cI .u64) 0 a) Try.underlying25 Try.underlying23 (by kernel_rfl) (by kernel_rfl)) (rtCons (i := 2) (o := 5) (o' := 6) rfl (by kernel_rfl) (by kernel_rfl) (rfI Try.underlying3) (rtCons (i := 3) (o := 6) (o' := 7) rfl (by kernel_rfl) (by kernel_rfl) (rfI Try.underlying3) (rtCons (i := 4) (o := 7) (o' := 8) rfl (by kernel_rfl) (by kernel_rfl) (rfI Try.underlying3) (rtCons (i := 5) (o := 8) (o' := 9) rfl (by kernel_rfl) (by kernel_rfl) (rfS1 n fun m hm => rfSl (es := 9) (f := v27) Try.underlying26 (by kernel_rfl) (by decide) (ih m hm) agg_rep) rtNil)))))) (fun a => by rw [c27_eq]; simp only [List.append_nil]) (fun a h => by rw [okr27]; simp only [okro27_iff]; exact h) (fun a => by rw [bkr27]; simp only [bkro27_eq]; exact Nat.le_refl _)
end
def okr56 (x : T56) : Prop := okI .i64 x.From ∧ okI .i64 x.To ∧ True
def bkr56 (x : T56) : Nat := (bk1 x.From + (bk1 x.To + 0)) + 1
section
variable {H : Type} {enc : TypeId × Value → H} {W : World} {base : Nat}
theorem rdr56 (n : Nat) : RdF n enc Try.prog W base 57 c56 okr56 bkr56 := by
 cases n with
 | zero => exact rf0
 | succ n => exact rfT (m := 2) (c' := c56) (ok' := okr56) (bk' := bkr56) (γ := Int × Int × Unit) (fun a => T56.mk a.1 a.2.1) Try.underlying57 (by kernel_rfl) (rtCons (i := 0) (o := 0) (o' := 1) rfl (by kernel_rfl) (by kernel_rfl) (rfI Try.underlying3) (rtCons (i := 1) (o := 1) (o' := 2) rfl (by kernel_rfl) (by kernel_rfl) (rfI Try.underlying3) rtNil)) (fun a => by unfold c56; simp only [List.append_nil]) (fun a h => h) (fun a => Nat.le_refl _)
end
end Go.Proofs.Ytjbafmnocopofaa
