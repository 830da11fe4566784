/-
  Twins with fuel of printed functions: closed runs are run by the kernel.
-/
import Derived.Test.YtjbafmnocopofaaD3
namespace Go.Proofs.Ytjbafmnocopofaa
open Go AW
set_option linter.unusedVariables false
set_option linter.unusedSimpArgs false
set_option maxRecDepth 100000
set_option maxHeartbeats 4000000
def Le {α : Type} (x y : Option α) : Prop := ∀ r, x = some r → y = some r
theorem le_refl {α : Type} (x : Option α) : Le x x := fun _ h => h
theorem le_none {α : Type} (x : Option α) : Le none x := fun _ h => by cases h
theorem le_bind {α β : Type} {x y : Option α} {f g : α → Option β} (h : Le x y) (h' : ∀ v, Le (f v) (g v)) : Le (x >>= f) (y >>= g) := fun r e => by
  obtain ⟨v, e1, e2⟩ := bind_some e
  rw [h v e1]; exact h' v r e2
theorem le_ite {α : Type} {c : Prop} [Decidable c] {x y x' y' : Option α} (h : Le x x') (h' : Le y y') : Le (if c then x else y) (if c then x' else y') := fun r e => by
  by_cases k : c
  · rw [if_pos k] at e ⊢; exact h r e
  · rw [if_neg k] at e ⊢; exact h' r e
noncomputable def HG31 (fu : Nat)  : St31 → Option Bool := fun st => match st with
 | .p1 n kids want =>
  (if (kids == want) = true then
   (if (n.Kind == 2) = true then
    (if (n.Kind == 5) = true then
     (if (n.Kind == 6) = true then
      (some true)
     else
      (if (n.Kind == 7) = true then
       (some true)
      else
       (some (n.Group == 0))))
    else
     (if (n.Min == 0) = true then
      (if (n.Max == 0) = true then
       (if (n.Kind == 6) = true then
        (some true)
       else
        (if (n.Kind == 7) = true then
         (some true)
        else
         (some (n.Group == 0))))
      else
       (some false))
     else
      (some false)))
   else
    (if (decide (n.Set = (Arr.rep 4 0))) = true then
     (if (n.Kind == 5) = true then
      (if (n.Kind == 6) = true then
       (some true)
      else
       (if (n.Kind == 7) = true then
        (some true)
       else
        (some (n.Group == 0))))
     else
      (if (n.Min == 0) = true then
       (if (n.Max == 0) = true then
        (if (n.Kind == 6) = true then
         (some true)
        else
         (if (n.Kind == 7) = true then
          (some true)
         else
          (some (n.Group == 0))))
       else
        (some false))
      else
       (some false)))
    else
     (some false)))
  else
   (some false))
theorem leG31 (fu : Nat) (st : St31) : Le (HG31 fu st) (G31 st) := by
  unfold HG31 G31
  cases st <;> dsimp only <;> (repeat' (with_reducible first | exact le_refl _ | apply le_ite | refine le_bind ?_ (fun _ => ?_)))
noncomputable def HF31 (fu : Nat) (n : T27) : Option Bool :=
 (if (n.Kind == 3) = true then
  (HG31 fu (.p1 n ((ls n.Kids).length : Int) (if 2 > ((ls n.Kids).length : Int) then 2 else ((ls n.Kids).length : Int))))
 else
  (if (n.Kind == 4) = true then
   (HG31 fu (.p1 n ((ls n.Kids).length : Int) (if 2 > ((ls n.Kids).length : Int) then 2 else ((ls n.Kids).length : Int))))
  else
   (if (n.Kind == 5) = true then
    (if (decide (n.Min < 0)) = true then
     (some false)
    else
     (if (decide (n.Min > 255)) = true then
      (some false)
     else
      (if (n.Max != (-1)) = true then
       (if (decide (n.Max < n.Min)) = true then
        (some false)
       else
        (if (decide (n.Max > 255)) = true then
         (some false)
        else
         (HG31 fu (.p1 n ((ls n.Kids).length : Int) 1))))
      else
       (HG31 fu (.p1 n ((ls n.Kids).length : Int) 1)))))
   else
    (if (n.Kind == 6) = true then
     (HG31 fu (.p1 n ((ls n.Kids).length : Int) 1))
    else
     (if (n.Kind == 1) = true then
      (HG31 fu (.p1 n ((ls n.Kids).length : Int) 0))
     else
      (if (n.Kind == 2) = true then
       (HG31 fu (.p1 n ((ls n.Kids).length : Int) 0))
      else
       (if (n.Kind == 7) = true then
        (HG31 fu (.p1 n ((ls n.Kids).length : Int) 0))
       else
        (if (n.Kind == 8) = true then
         (HG31 fu (.p1 n ((ls n.Kids).length : Int) 0))
        else
         (if (n.Kind == 9) = true then
          (HG31 fu (.p1 n ((ls n.Kids).length : Int) 0))
         else
          (some false))))))))))
theorem leF31 (fu : Nat) (n : T27) : Le (HF31 fu n) (F31 n) := by
  unfold HF31 F31
  repeat' (with_reducible first | exact leG31 fu _ | exact le_refl _ | apply le_ite | refine le_bind ?_ (fun _ => ?_))
noncomputable def SG38 (fu : Nat)  (ih : St38 → Option (Int × Int)) : St38 → Option (Int × Int) := fun st => match st with
 | .e n =>
  (if (n.Kind == 6) = true then
   (ih (.p1 n n.Group n.Group))
  else
   (ih (.p1 n 0 0)))
 | .p1 n low high =>
  (ih (.p2 low high n.Kids ((ls n.Kids).length : Int) 0))
 | .p2 low high t18_ t19_ t20_ =>
  (if (decide (t20_ < t19_)) = true then
   (ix (ls t18_) t20_ >>= fun v_3 =>
    (ih (.e v_3) >>= fun r_6 =>
     (if (decide (r_6.1 > 0)) = true then
      (if (low == 0) = true then
       (ih (.p3 r_6.1 high r_6.2 t18_ t19_ t20_))
      else
       (if (decide (r_6.1 < low)) = true then
        (ih (.p3 r_6.1 high r_6.2 t18_ t19_ t20_))
       else
        (ih (.p3 low high r_6.2 t18_ t19_ t20_))))
     else
      (ih (.p3 low high r_6.2 t18_ t19_ t20_)))))
  else
   (some (low, high)))
 | .p3 low high b t18_ t19_ t20_ =>
  (ih (.p2 low (if b > high then b else high) t18_ t19_ (IntKind.wrap .i64 (t20_ + 1))))
noncomputable def HG38 (fu : Nat)  : St38 → Option (Int × Int) :=
 Nat.rec (motive := fun _ => St38 → Option (Int × Int)) (fun _ => none) (fun fu ih => SG38 fu ih) fu
theorem HG38_s (fu : Nat)  (st : St38) : HG38 (fu + 1) st = SG38 fu (HG38 fu) st := rfl
theorem leG38 (fu : Nat) (st : St38) : Le (HG38 fu st) (G38 st) := by
  induction fu generalizing st with
  | zero => exact le_none _
  | succ fu ih =>
    cases st
    · rw [HG38_s, G38.eq_1]
      unfold SG38
      dsimp only
      generalize HG38 fu = hh at ih ⊢
      repeat' (with_reducible first | exact ih _ | exact le_refl _ | apply le_ite | refine le_bind ?_ (fun _ => ?_))
    · rw [HG38_s, G38.eq_2]
      unfold SG38
      dsimp only
      generalize HG38 fu = hh at ih ⊢
      repeat' (with_reducible first | exact ih _ | exact le_refl _ | apply le_ite | refine le_bind ?_ (fun _ => ?_))
    · rw [HG38_s, G38.eq_3]
      unfold SG38
      dsimp only
      generalize HG38 fu = hh at ih ⊢
      repeat' (with_reducible first | exact ih _ | exact le_refl _ | apply le_ite | refine le_bind ?_ (fun _ => ?_))
    · rw [HG38_s, G38.eq_4]
      unfold SG38
      dsimp only
      generalize HG38 fu = hh at ih ⊢
      repeat' (with_reducible first | exact ih _ | exact le_refl _ | apply le_ite | refine le_bind ?_ (fun _ => ?_))
noncomputable def HF38 (fu : Nat) (n : T27) : Option (Int × Int) := HG38 fu (.e n)
theorem leF38 (fu : Nat) (n : T27) : Le (HF38 fu n) (F38 n) := by
  unfold HF38 F38
  repeat' (with_reducible first | exact leG38 fu _ | exact le_refl _ | apply le_ite | refine le_bind ?_ (fun _ => ?_))
noncomputable def HF29 (fu : Nat) (n : T27) : Option T27 :=
 (some n)
theorem leF29 (fu : Nat) (n : T27) : Le (HF29 fu n) (F29 n) := by
  unfold HF29 F29
  repeat' (with_reducible first | exact le_refl _ | apply le_ite | refine le_bind ?_ (fun _ => ?_))
noncomputable def SG41 (fu : Nat) {σ : Type} (Y : T27 → σ → Option (Bool × σ)) (ih : St41 σ → Option (Bool × σ)) : St41 σ → Option (Bool × σ) := fun st => match st with
 | .e n s_ =>
  (Y n s_ >>= fun r_1 =>
   (if (!r_1.1) = true then
    (some (false, r_1.2))
   else
    (ih (.p1 n ((ls n.Kids).length : Int) 0 r_1.2))))
 | .p1 n t14_ t15_ s_ =>
  (if (decide (t15_ < t14_)) = true then
   (ix (ls n.Kids) t15_ >>= fun v_5 =>
    (ih (.e v_5 s_) >>= fun r_7 =>
     (if (!r_7.1) = true then
      (some (false, r_7.2))
     else
      (ih (.p1 n t14_ (IntKind.wrap .i64 (t15_ + 1)) r_7.2)))))
  else
   (some (true, s_)))
noncomputable def HG41 (fu : Nat) {σ : Type} (Y : T27 → σ → Option (Bool × σ)) : St41 σ → Option (Bool × σ) :=
 Nat.rec (motive := fun _ => St41 σ → Option (Bool × σ)) (fun _ => none) (fun fu ih => SG41 fu Y ih) fu
theorem HG41_s (fu : Nat) {σ : Type} (Y : T27 → σ → Option (Bool × σ)) (st : St41 σ) : HG41 (fu + 1) Y st = SG41 fu Y (HG41 fu Y) st := rfl
theorem leG41 (fu : Nat) {σ : Type} (Y Y2 : T27 → σ → Option (Bool × σ)) (hY : ∀ a b, Le (Y a b) (Y2 a b)) (st : St41 σ) : Le (HG41 fu Y st) (G41 Y2 st) := by
  induction fu generalizing st with
  | zero => exact le_none _
  | succ fu ih =>
    cases st
    · rw [HG41_s, G41.eq_1]
      unfold SG41
      dsimp only
      generalize HG41 fu Y = hh at ih ⊢
      repeat' (with_reducible first | exact ih _ | exact hY _ _ | exact le_refl _ | apply le_ite | refine le_bind ?_ (fun _ => ?_))
    · rw [HG41_s, G41.eq_2]
      unfold SG41
      dsimp only
      generalize HG41 fu Y = hh at ih ⊢
      repeat' (with_reducible first | exact ih _ | exact hY _ _ | exact le_refl _ | apply le_ite | refine le_bind ?_ (fun _ => ?_))
noncomputable def HF41 (fu : Nat) {σ : Type} (Y : T27 → σ → Option (Bool × σ)) (n : T27) (s_ : σ) : Option (Bool × σ) := HG41 fu Y (.e n s_)
theorem leF41 (fu : Nat) {σ : Type} (Y Y2 : T27 → σ → Option (Bool × σ)) (n : T27) (s_ : σ) (hY : ∀ a b, Le (Y a b) (Y2 a b)) : Le (HF41 fu Y n s_) (F41 Y2 n s_) := by
  unfold HF41 F41
  repeat' (with_reducible first | exact hY _ _ | exact leG41 fu _ _ (fun _ _ => by first | exact hY _ _ ) _ | exact le_refl _ | apply le_ite | refine le_bind ?_ (fun _ => ?_))
noncomputable def HF40 (fu : Nat) {σ : Type} (Y : T27 → σ → Option (Bool × σ)) (d0_ : T27) (s_ : σ) : Option σ :=
 (HF41 fu Y d0_ s_ >>= fun r_2 =>
  (some r_2.2))
theorem leF40 (fu : Nat) {σ : Type} (Y Y2 : T27 → σ → Option (Bool × σ)) (d0_ : T27) (s_ : σ) (hY : ∀ a b, Le (Y a b) (Y2 a b)) : Le (HF40 fu Y d0_ s_) (F40 Y2 d0_ s_) := by
  unfold HF40 F40
  repeat' (with_reducible first | exact hY _ _ | exact leF41 fu _ _ _ _ (fun _ _ => by first | exact hY _ _ ) | exact le_refl _ | apply le_ite | refine le_bind ?_ (fun _ => ?_))
noncomputable def HB28_1 (fu : Nat) (t2_ : Int) (t5_ : T27) (x : T27) (zz : Int × Nat) : Option (Bool × (Int × Nat)) := if zz.2 = 0 then
 (if (x.Kind == 6) = true then
  (some (true, (IntKind.wrap .i64 (zz.1 + 1), 0)))
 else
  (some (true, (zz.1, 0))))
else none
theorem leB28_1 (fu : Nat) (t2_ : Int) (t5_ : T27) (x : T27) (zz : Int × Nat) : Le (HB28_1 fu t2_ t5_ x zz) (B28_1 t2_ t5_ x zz) := by
  unfold HB28_1 B28_1
  repeat' (with_reducible first | exact le_refl _ | apply le_ite | refine le_bind ?_ (fun _ => ?_))
noncomputable def HG28 (fu : Nat)  : St28 → Option Int := fun st => match st with
 | .p1 t2_ t5_ k =>
  (HF40 fu (HB28_1 fu t2_ t5_) t5_ (k, 0) >>= fun r_4 =>
   (if r_4.2 = 0 then
    (some r_4.1)
   else
    none))
theorem leG28 (fu : Nat) (st : St28) : Le (HG28 fu st) (G28 st) := by
  unfold HG28 G28
  cases st <;> dsimp only <;> (repeat' (with_reducible first | exact leF40 fu _ _ _ _ (fun _ _ => by first | exact leB28_1 fu _ _ _ _) | exact leB28_1 fu _ _ _ _ | exact le_refl _ | apply le_ite | refine le_bind ?_ (fun _ => ?_)))
noncomputable def HF28 (fu : Nat) (n : T27) : Option Int :=
 (HF29 fu n >>= fun r_2 =>
  (HG28 fu (.p1 0 r_2 0)))
theorem leF28 (fu : Nat) (n : T27) : Le (HF28 fu n) (F28 n) := by
  unfold HF28 F28
  repeat' (with_reducible first | exact leF29 fu _ | exact leG28 fu _ | exact le_refl _ | apply le_ite | refine le_bind ?_ (fun _ => ?_))
noncomputable def HF37 (fu : Nat) (x_ : Int) (q0_ : Int) : Option Int :=
 (some (if 16385 < (IntKind.wrap .i64 (q0_ + x_)) then 16385 else (IntKind.wrap .i64 (q0_ + x_))))
theorem leF37 (fu : Nat) (x_ : Int) (q0_ : Int) : Le (HF37 fu x_ q0_) (F37 x_ q0_) := by
  unfold HF37 F37
  repeat' (with_reducible first | exact le_refl _ | apply le_ite | refine le_bind ?_ (fun _ => ?_))
noncomputable def SG25 (fu : Nat)  (ih : St25 → Option Int) : St25 → Option Int := fun st => match st with
 | .e n =>
  (if (n.Kind == 1) = true then
   (some 0)
  else
   (if (n.Kind == 3) = true then
    (ih (.p1 n 0))
   else
    (if (n.Kind == 4) = true then
     (ih (.p1 n 0))
    else
     (if (n.Kind == 6) = true then
      (ih (.p1 n 0))
     else
      (if (n.Kind == 5) = true then
       (ix (ls n.Kids) 0 >>= fun v_7 =>
        (ih (.e v_7) >>= fun r_9 =>
         (ix (ls n.Kids) 0 >>= fun v_11 =>
          (HF38 fu v_11 >>= fun r_13 =>
           (if (decide (r_13.1 > 0)) = true then
            (ih (.p2 n (if 16385 < (IntKind.wrap .i64 (r_9 + 1)) then 16385 else (IntKind.wrap .i64 (r_9 + 1))) 0))
           else
            (ih (.p2 n r_9 0)))))))
      else
       (HF37 fu 1 0 >>= fun r_16 =>
        (some r_16)))))))
 | .p1 n sum =>
  (ih (.p3 n n.Kids ((ls n.Kids).length : Int) 0 sum))
 | .p2 n round sum =>
  (HF37 fu (IntKind.wrap .i64 (n.Min * round)) sum >>= fun r_18 =>
   (if (n.Max == (-1)) = true then
    (HF37 fu (IntKind.wrap .i64 (round + 4)) r_18 >>= fun r_21 =>
     (some r_21))
   else
    (HF37 fu (IntKind.wrap .i64 ((IntKind.wrap .i64 (n.Max - n.Min)) * (IntKind.wrap .i64 (round + 3)))) r_18 >>= fun r_23 =>
     (some r_23))))
 | .p3 n t22_ t23_ t24_ sum =>
  (if (decide (t24_ < t23_)) = true then
   (ix (ls t22_) t24_ >>= fun v_26 =>
    (ih (.e v_26) >>= fun r_29 =>
     (HF37 fu r_29 sum >>= fun r_31 =>
      (ih (.p3 n t22_ t23_ (IntKind.wrap .i64 (t24_ + 1)) r_31)))))
  else
   (if (n.Kind == 4) = true then
    (HF37 fu (IntKind.wrap .i64 (2 * (IntKind.wrap .i64 (((ls n.Kids).length : Int) - 1)))) sum >>= fun r_34 =>
     (ih (.p4 n r_34)))
   else
    (ih (.p4 n sum))))
 | .p4 n sum =>
  (if (n.Kind == 6) = true then
   (HF37 fu 2 sum >>= fun r_37 =>
    (some r_37))
  else
   (some sum))
noncomputable def HG25 (fu : Nat)  : St25 → Option Int :=
 Nat.rec (motive := fun _ => St25 → Option Int) (fun _ => none) (fun fu ih => SG25 fu ih) fu
theorem HG25_s (fu : Nat)  (st : St25) : HG25 (fu + 1) st = SG25 fu (HG25 fu) st := rfl
theorem leG25 (fu : Nat) (st : St25) : Le (HG25 fu st) (G25 st) := by
  induction fu generalizing st with
  | zero => exact le_none _
  | succ fu ih =>
    cases st
    · rw [HG25_s, G25.eq_1]
      unfold SG25
      dsimp only
      generalize HG25 fu = hh at ih ⊢
      repeat' (with_reducible first | exact ih _ | exact leF38 fu _ | exact leF37 fu _ _ | exact le_refl _ | apply le_ite | refine le_bind ?_ (fun _ => ?_))
    · rw [HG25_s, G25.eq_2]
      unfold SG25
      dsimp only
      generalize HG25 fu = hh at ih ⊢
      repeat' (with_reducible first | exact ih _ | exact leF38 fu _ | exact leF37 fu _ _ | exact le_refl _ | apply le_ite | refine le_bind ?_ (fun _ => ?_))
    · rw [HG25_s, G25.eq_3]
      unfold SG25
      dsimp only
      generalize HG25 fu = hh at ih ⊢
      repeat' (with_reducible first | exact ih _ | exact leF38 fu _ | exact leF37 fu _ _ | exact le_refl _ | apply le_ite | refine le_bind ?_ (fun _ => ?_))
    · rw [HG25_s, G25.eq_4]
      unfold SG25
      dsimp only
      generalize HG25 fu = hh at ih ⊢
      repeat' (with_reducible first | exact ih _ | exact leF38 fu _ | exact leF37 fu _ _ | exact le_refl _ | apply le_ite | refine le_bind ?_ (fun _ => ?_))
    · rw [HG25_s, G25.eq_5]
      unfold SG25
      dsimp only
      generalize HG25 fu = hh at ih ⊢
      repeat' (with_reducible first | exact ih _ | exact leF38 fu _ | exact leF37 fu _ _ | exact le_refl _ | apply le_ite | refine le_bind ?_ (fun _ => ?_))
noncomputable def HF25 (fu : Nat) (n : T27) : Option Int := HG25 fu (.e n)
theorem leF25 (fu : Nat) (n : T27) : Le (HF25 fu n) (F25 n) := by
  unfold HF25 F25
  repeat' (with_reducible first | exact leG25 fu _ | exact le_refl _ | apply le_ite | refine le_bind ?_ (fun _ => ?_))
noncomputable def SG30 (fu : Nat)  (ih : St30 → Option (Bool × Int × Sl Bool)) : St30 → Option (Bool × Int × Sl Bool) := fun st => match st with
 | .e n q0_ q1_ q2_ =>
  (if q0_ = true then
   (HF31 fu n >>= fun r_2 =>
    (ih (.p1 n r_2 q1_ q2_)))
  else
   (ih (.p1 n false q1_ q2_)))
 | .p1 n q0_ q1_ q2_ =>
  (if (!q0_) = true then
   (some (q0_, q1_, q2_))
  else
   (if (n.Kind == 6) = true then
    (if (n.Group == (IntKind.wrap .i64 (q1_ + 1))) = true then
     (ih (.p2 n (decide ((IntKind.wrap .i64 (q1_ + 1)) ≤ 99)) (IntKind.wrap .i64 (q1_ + 1)) q2_))
    else
     (ih (.p2 n false (IntKind.wrap .i64 (q1_ + 1)) q2_)))
   else
    (if (n.Kind == 7) = true then
     (if (decide (n.Group ≥ 1)) = true then
      (if (decide (n.Group ≤ 9)) = true then
       (if (decide (n.Group ≤ q1_)) = true then
        (ix (ls q2_) (IntKind.wrap .i64 (n.Group - 1)) >>= fun v_12 =>
         (ih (.p3 n v_12 q1_ q2_)))
       else
        (ih (.p3 n false q1_ q2_)))
      else
       (ih (.p3 n false q1_ q2_)))
     else
      (ih (.p3 n false q1_ q2_)))
    else
     (ih (.p3 n q0_ q1_ q2_)))))
 | .p2 n q0_ q1_ q2_ =>
  (if ((ls q2_).length + (ls (some ([false] : List Bool))).length) * 1 ≤ 140737488355328 then
   (ih (.p3 n q0_ q1_ (sapp q2_ (ls (some ([false] : List Bool))))))
  else none)
 | .p3 n q0_ q1_ q2_ =>
  (ih (.p4 n ((ls n.Kids).length : Int) 0 q0_ q1_ q2_))
 | .p4 n t71_ t72_ q0_ q1_ q2_ =>
  (if (decide (t72_ < t71_)) = true then
   (if q0_ = true then
    (ix (ls n.Kids) t72_ >>= fun v_20 =>
     (ih (.e v_20 q0_ q1_ q2_) >>= fun r_22 =>
      (ih (.p4 n t71_ (IntKind.wrap .i64 (t72_ + 1)) r_22.1 r_22.2.1 r_22.2.2))))
   else
    (ih (.p4 n t71_ (IntKind.wrap .i64 (t72_ + 1)) q0_ q1_ q2_)))
  else
   (if q0_ = true then
    (if (n.Kind == 6) = true then
     (ix (ls q2_) (IntKind.wrap .i64 (n.Group - 1)) >>= fun v_27 =>
      (some (q0_, q1_, (vset q2_ (IntKind.wrap .i64 (n.Group - 1)) true))))
    else
     (some (q0_, q1_, q2_)))
   else
    (some (q0_, q1_, q2_))))
noncomputable def HG30 (fu : Nat)  : St30 → Option (Bool × Int × Sl Bool) :=
 Nat.rec (motive := fun _ => St30 → Option (Bool × Int × Sl Bool)) (fun _ => none) (fun fu ih => SG30 fu ih) fu
theorem HG30_s (fu : Nat)  (st : St30) : HG30 (fu + 1) st = SG30 fu (HG30 fu) st := rfl
theorem leG30 (fu : Nat) (st : St30) : Le (HG30 fu st) (G30 st) := by
  induction fu generalizing st with
  | zero => exact le_none _
  | succ fu ih =>
    cases st
    · rw [HG30_s, G30.eq_1]
      unfold SG30
      dsimp only
      generalize HG30 fu = hh at ih ⊢
      repeat' (with_reducible first | exact ih _ | exact leF31 fu _ | exact le_refl _ | apply le_ite | refine le_bind ?_ (fun _ => ?_))
    · rw [HG30_s, G30.eq_2]
      unfold SG30
      dsimp only
      generalize HG30 fu = hh at ih ⊢
      repeat' (with_reducible first | exact ih _ | exact leF31 fu _ | exact le_refl _ | apply le_ite | refine le_bind ?_ (fun _ => ?_))
    · rw [HG30_s, G30.eq_3]
      unfold SG30
      dsimp only
      generalize HG30 fu = hh at ih ⊢
      repeat' (with_reducible first | exact ih _ | exact leF31 fu _ | exact le_refl _ | apply le_ite | refine le_bind ?_ (fun _ => ?_))
    · rw [HG30_s, G30.eq_4]
      unfold SG30
      dsimp only
      generalize HG30 fu = hh at ih ⊢
      repeat' (with_reducible first | exact ih _ | exact leF31 fu _ | exact le_refl _ | apply le_ite | refine le_bind ?_ (fun _ => ?_))
    · rw [HG30_s, G30.eq_5]
      unfold SG30
      dsimp only
      generalize HG30 fu = hh at ih ⊢
      repeat' (with_reducible first | exact ih _ | exact leF31 fu _ | exact le_refl _ | apply le_ite | refine le_bind ?_ (fun _ => ?_))
noncomputable def HF30 (fu : Nat) (n : T27) (q0_ : Bool) (q1_ : Int) (q2_ : Sl Bool) : Option (Bool × Int × Sl Bool) := HG30 fu (.e n q0_ q1_ q2_)
theorem leF30 (fu : Nat) (n : T27) (q0_ : Bool) (q1_ : Int) (q2_ : Sl Bool) : Le (HF30 fu n q0_ q1_ q2_) (F30 n q0_ q1_ q2_) := by
  unfold HF30 F30
  repeat' (with_reducible first | exact leG30 fu _ | exact le_refl _ | apply le_ite | refine le_bind ?_ (fun _ => ?_))
noncomputable def HB12_1 (fu : Nat) (n : T27) (t8_ : T27) (x : T27) (zz : Int × Int × Nat) : Option (Bool × (Int × Int × Nat)) := if zz.2.2 = 0 then
 (if (decide ((IntKind.wrap .i64 (zz.2.1 + 1)) > 8192)) = true then
  (some (false, (3, IntKind.wrap .i64 (zz.2.1 + 1), 1)))
 else
  (some (true, (zz.1, IntKind.wrap .i64 (zz.2.1 + 1), 0))))
else none
theorem leB12_1 (fu : Nat) (n : T27) (t8_ : T27) (x : T27) (zz : Int × Int × Nat) : Le (HB12_1 fu n t8_ x zz) (B12_1 n t8_ x zz) := by
  unfold HB12_1 B12_1
  repeat' (with_reducible first | exact le_refl _ | apply le_ite | refine le_bind ?_ (fun _ => ?_))
noncomputable def HG12 (fu : Nat)  : St12 → Option Int := fun st => match st with
 | .p1 n t8_ t2_ count =>
  (HF40 fu (HB12_1 fu n t8_) t8_ (t2_, count, 0) >>= fun r_5 =>
   (if r_5.2.2 = 0 then
    (HF30 fu n true 0 (none : Sl Bool) >>= fun r_12 =>
     (if (!r_12.1) = true then
      (some 90)
     else
      (some 0)))
   else
    (if r_5.2.2 = 1 then
     (some r_5.1)
    else
     none)))
theorem leG12 (fu : Nat) (st : St12) : Le (HG12 fu st) (G12 st) := by
  unfold HG12 G12
  cases st <;> dsimp only <;> (repeat' (with_reducible first | exact leF40 fu _ _ _ _ (fun _ _ => by first | exact leB12_1 fu _ _ _ _) | exact leB12_1 fu _ _ _ _ | exact leF30 fu _ _ _ _ | exact le_refl _ | apply le_ite | refine le_bind ?_ (fun _ => ?_)))
noncomputable def HF12 (fu : Nat) (n : T27) : Option Int :=
 (HF29 fu n >>= fun r_3 =>
  (HG12 fu (.p1 n r_3 0 0)))
theorem leF12 (fu : Nat) (n : T27) : Le (HF12 fu n) (F12 n) := by
  unfold HF12 F12
  repeat' (with_reducible first | exact leF29 fu _ | exact leG12 fu _ | exact le_refl _ | apply le_ite | refine le_bind ?_ (fun _ => ?_))
noncomputable def HF27 (fu : Nat) (c : T65) (x_ : T52) : Option (Int × T65) :=
 (if ((ls c.code).length + (ls (some ([x_] : List T52))).length) * 72 ≤ 140737488355328 then
  (some (IntKind.wrap .i64 (((ls (sapp c.code (ls (some ([x_] : List T52))))).length : Int) - 1), ({ c with code := sapp c.code (ls (some ([x_] : List T52))) } : T65)))
 else none)
theorem leF27 (fu : Nat) (c : T65) (x_ : T52) : Le (HF27 fu c x_) (F27 c x_) := by
  unfold HF27 F27
  repeat' (with_reducible first | exact le_refl _ | apply le_ite | refine le_bind ?_ (fun _ => ?_))
noncomputable def HF58 (fu : Nat) (s : T92) (i : Int) : Option (Bool × T92) :=
 (ix (ls s.in_) i >>= fun v_3 =>
  (if v_3 = true then
   (some (false, s))
  else
   (ix (ls s.in_) i >>= fun v_6 =>
    (if ((ls s.list).length + (ls (some ([i] : List Int))).length) * 8 ≤ 140737488355328 then
     (some (true, ({ s with in_ := (vset s.in_ i true), list := sapp s.list (ls (some ([i] : List Int))) } : T92)))
    else none))))
theorem leF58 (fu : Nat) (s : T92) (i : Int) : Le (HF58 fu s i) (F58 s i) := by
  unfold HF58 F58
  repeat' (with_reducible first | exact le_refl _ | apply le_ite | refine le_bind ?_ (fun _ => ?_))
noncomputable def HF9 (fu : Nat) (n : T27) : Option (Int × Int) :=
 (HF12 fu n >>= fun r_1 =>
  (if (r_1 != 0) = true then
   (some (0, r_1))
  else
   (HF25 fu n >>= fun r_4 =>
    (if (decide (r_4 < 16384)) = true then
     (some (IntKind.wrap .i64 (r_4 + 1), 0))
    else
     (some (0, 3))))))
theorem leF9 (fu : Nat) (n : T27) : Le (HF9 fu n) (F9 n) := by
  unfold HF9 F9
  repeat' (with_reducible first | exact leF12 fu _ | exact leF25 fu _ | exact le_refl _ | apply le_ite | refine le_bind ?_ (fun _ => ?_))
noncomputable def HF39 (fu : Nat)  : Option Unit :=
 (some ())
theorem leF39 (fu : Nat)  : Le (HF39 fu ) (F39 ) := by
  unfold HF39 F39
  repeat' (with_reducible first | exact le_refl _ | apply le_ite | refine le_bind ?_ (fun _ => ?_))
noncomputable def HF46 (fu : Nat) (c : T65) (n : T27) : Option T65 :=
 (some c)
theorem leF46 (fu : Nat) (c : T65) (n : T27) : Le (HF46 fu c n) (F46 c n) := by
  unfold HF46 F46
  repeat' (with_reducible first | exact le_refl _ | apply le_ite | refine le_bind ?_ (fun _ => ?_))
noncomputable def HF47 (fu : Nat) (c : T65) (n : T27) : Option T65 :=
 (HF27 fu c ({ Kind := 1, Set := n.Set, To := 0, Group := 0, Last := 0, Slot := 0 } : T52) >>= fun r_1 =>
  (some r_1.2))
theorem leF47 (fu : Nat) (c : T65) (n : T27) : Le (HF47 fu c n) (F47 c n) := by
  unfold HF47 F47
  repeat' (with_reducible first | exact leF27 fu _ _ | exact le_refl _ | apply le_ite | refine le_bind ?_ (fun _ => ?_))
noncomputable def HF48 (fu : Nat) (c : T65) (n : T27) : Option T65 :=
 (HF27 fu c ({ Kind := 10, Set := (Arr.rep 4 0), To := 0, Group := 0, Last := 0, Slot := 0 } : T52) >>= fun r_1 =>
  (some r_1.2))
theorem leF48 (fu : Nat) (c : T65) (n : T27) : Le (HF48 fu c n) (F48 c n) := by
  unfold HF48 F48
  repeat' (with_reducible first | exact leF27 fu _ _ | exact le_refl _ | apply le_ite | refine le_bind ?_ (fun _ => ?_))
noncomputable def HF49 (fu : Nat) (c : T65) (n : T27) : Option T65 :=
 (HF27 fu c ({ Kind := 11, Set := (Arr.rep 4 0), To := 0, Group := 0, Last := 0, Slot := 0 } : T52) >>= fun r_1 =>
  (some r_1.2))
theorem leF49 (fu : Nat) (c : T65) (n : T27) : Le (HF49 fu c n) (F49 c n) := by
  unfold HF49 F49
  repeat' (with_reducible first | exact leF27 fu _ _ | exact le_refl _ | apply le_ite | refine le_bind ?_ (fun _ => ?_))
noncomputable def HF50 (fu : Nat) (c : T65) (n : T27) : Option T65 :=
 (HF27 fu c ({ Kind := 9, Set := (Arr.rep 4 0), To := 0, Group := n.Group, Last := 0, Slot := 0 } : T52) >>= fun r_1 =>
  (some r_1.2))
theorem leF50 (fu : Nat) (c : T65) (n : T27) : Le (HF50 fu c n) (F50 c n) := by
  unfold HF50 F50
  repeat' (with_reducible first | exact leF27 fu _ _ | exact le_refl _ | apply le_ite | refine le_bind ?_ (fun _ => ?_))
noncomputable def SG26r (fu : Nat)  (ih : St26r → Option T65) : St26r → Option T65 := fun st => match st with
 | .e26 c n =>
  (HF39 fu >>= fun r_1 =>
   (if n.Kind = 1 then
    (HF46 fu c n >>= fun r_28 =>
     (some r_28))
   else
    (if n.Kind = 2 then
     (HF47 fu c n >>= fun r_25 =>
      (some r_25))
    else
     (if n.Kind = 3 then
      (ih (.e51 c n) >>= fun r_22 =>
       (some r_22))
     else
      (if n.Kind = 4 then
       (ih (.e53 c n) >>= fun r_19 =>
        (some r_19))
      else
       (if n.Kind = 5 then
        (ih (.e54 c n) >>= fun r_16 =>
         (some r_16))
       else
        (if n.Kind = 6 then
         (ih (.e52 c n) >>= fun r_13 =>
          (some r_13))
        else
         (if n.Kind = 7 then
          (HF50 fu c n >>= fun r_10 =>
           (some r_10))
         else
          (if n.Kind = 8 then
           (HF48 fu c n >>= fun r_7 =>
            (some r_7))
          else
           (if n.Kind = 9 then
            (HF49 fu c n >>= fun r_4 =>
             (some r_4))
           else
            none))))))))))
 | .e51 c n =>
  (ih (.p51_1 n.Kids ((ls n.Kids).length : Int) 0 c))
 | .p51_1 t7_ t8_ t9_ c =>
  (if (decide (t9_ < t8_)) = true then
   (ix (ls t7_) t9_ >>= fun v_2 =>
    (ih (.e26 c v_2) >>= fun r_5 =>
     (ih (.p51_1 t7_ t8_ (IntKind.wrap .i64 (t9_ + 1)) r_5))))
  else
   (some c))
 | .e52 c n =>
  (HF27 fu c ({ Kind := 4, Set := (Arr.rep 4 0), To := 0, Group := n.Group, Last := 0, Slot := 0 } : T52) >>= fun r_1 =>
   (ix (ls n.Kids) 0 >>= fun v_3 =>
    (ih (.e26 r_1.2 v_3) >>= fun r_5 =>
     (HF27 fu r_5 ({ Kind := 5, Set := (Arr.rep 4 0), To := 0, Group := n.Group, Last := 0, Slot := 0 } : T52) >>= fun r_7 =>
      (some r_7.2)))))
 | .e53 c n =>
  (scut n.Kids 0 (IntKind.wrap .i64 (((ls n.Kids).length : Int) - 1)) >>= fun w_1 =>
   (ih (.p53_1 n (IntKind.wrap .i64 (((ls n.Kids).length : Int) - 1)) w_1 ((ls w_1).length : Int) 0 c none)))
 | .p53_1 n last t18_ t19_ t20_ c out =>
  (if (decide (t20_ < t19_)) = true then
   (ix (ls t18_) t20_ >>= fun v_5 =>
    (HF27 fu c ({ Kind := 2, Set := (Arr.rep 4 0), To := 0, Group := 0, Last := 0, Slot := 0 } : T52) >>= fun r_8 =>
     (ih (.e26 r_8.2 v_5) >>= fun r_10 =>
      (HF27 fu r_10 ({ Kind := 3, Set := (Arr.rep 4 0), To := 0, Group := 0, Last := 0, Slot := 0 } : T52) >>= fun r_12 =>
       (if ((ls out).length + (ls (some ([r_12.1] : List Int))).length) * 8 ≤ 140737488355328 then
        (ix (ls r_12.2.code) r_8.1 >>= fun v_18 =>
         (ih (.p53_1 n last t18_ t19_ (IntKind.wrap .i64 (t20_ + 1)) ({ r_12.2 with code := (vset r_12.2.code r_8.1 ({ v_18 with To := ((ls r_12.2.code).length : Int) } : T52)) } : T65) (sapp out (ls (some ([r_12.1] : List Int)))))))
       else none)))))
  else
   (ix (ls n.Kids) last >>= fun v_20 =>
    (ih (.e26 c v_20) >>= fun r_22 =>
     (ih (.p53_2 out ((ls out).length : Int) 0 r_22)))))
 | .p53_2 t56_ t57_ t58_ c =>
  (if (decide (t58_ < t57_)) = true then
   (ix (ls t56_) t58_ >>= fun v_25 =>
    (ix (ls c.code) v_25 >>= fun v_28 =>
     (ih (.p53_2 t56_ t57_ (IntKind.wrap .i64 (t58_ + 1)) ({ c with code := (vset c.code v_25 ({ v_28 with To := ((ls c.code).length : Int) } : T52)) } : T65)))))
  else
   (some c))
 | .e54 c n =>
  (ih (.p54_1 n n.Min 0 c))
 | .p54_1 n t10_ t11_ c =>
  (if (decide (t11_ < t10_)) = true then
   (ix (ls n.Kids) 0 >>= fun v_3 =>
    (ih (.e59 c v_3 false) >>= fun r_5 =>
     (if (((ls r_5.code).length : Int) == ((ls c.code).length : Int)) = true then
      (ih (.p54_2 n r_5))
     else
      (ih (.p54_1 n t10_ (IntKind.wrap .i64 (t11_ + 1)) r_5)))))
  else
   (ih (.p54_2 n c)))
 | .p54_2 n c =>
  (if (n.Max == (-1)) = true then
   (HF27 fu c ({ Kind := 2, Set := (Arr.rep 4 0), To := 0, Group := 0, Last := 0, Slot := 0 } : T52) >>= fun r_10 =>
    (ix (ls n.Kids) 0 >>= fun v_12 =>
     (ih (.e59 r_10.2 v_12 true) >>= fun r_14 =>
      (HF27 fu r_14 ({ Kind := 3, Set := (Arr.rep 4 0), To := r_10.1, Group := 0, Last := 0, Slot := 0 } : T52) >>= fun r_16 =>
       (ix (ls r_16.2.code) r_10.1 >>= fun v_19 =>
        (some ({ r_16.2 with code := (vset r_16.2.code r_10.1 ({ v_19 with To := ((ls r_16.2.code).length : Int) } : T52)) } : T65)))))))
  else
   (ih (.p54_3 n (IntKind.wrap .i64 (n.Max - n.Min)) 0 c none)))
 | .p54_3 n t64_ t65_ c out =>
  (if (decide (t65_ < t64_)) = true then
   (HF27 fu c ({ Kind := 2, Set := (Arr.rep 4 0), To := 0, Group := 0, Last := 0, Slot := 0 } : T52) >>= fun r_23 =>
    (if ((ls out).length + (ls (some ([r_23.1] : List Int))).length) * 8 ≤ 140737488355328 then
     (ix (ls n.Kids) 0 >>= fun v_28 =>
      (ih (.e59 r_23.2 v_28 true) >>= fun r_30 =>
       (ih (.p54_3 n t64_ (IntKind.wrap .i64 (t65_ + 1)) r_30 (sapp out (ls (some ([r_23.1] : List Int))))))))
    else none))
  else
   (ih (.p54_4 out ((ls out).length : Int) 0 c)))
 | .p54_4 t80_ t81_ t82_ c =>
  (if (decide (t82_ < t81_)) = true then
   (ix (ls t80_) t82_ >>= fun v_33 =>
    (ix (ls c.code) v_33 >>= fun v_36 =>
     (ih (.p54_4 t80_ t81_ (IntKind.wrap .i64 (t82_ + 1)) ({ c with code := (vset c.code v_33 ({ v_36 with To := ((ls c.code).length : Int) } : T52)) } : T65)))))
  else
   (some c))
 | .e59 c n free =>
  (if free = true then
   (HF27 fu c ({ Kind := 7, Set := (Arr.rep 4 0), To := 0, Group := 0, Last := 0, Slot := c.free } : T52) >>= fun r_3 =>
    (ih (.p59_1 free n c.free ({ r_3.2 with free := IntKind.wrap .i64 (r_3.2.free + 1), slots := (if (IntKind.wrap .i64 (r_3.2.free + 1)) > r_3.2.slots then (IntKind.wrap .i64 (r_3.2.free + 1)) else r_3.2.slots) } : T65))))
  else
   (ih (.p59_1 free n c.free c)))
 | .p59_1 free n slot c =>
  (HF38 fu n >>= fun r_6 =>
   (if (decide (r_6.1 > 0)) = true then
    (HF27 fu c ({ Kind := 6, Set := (Arr.rep 4 0), To := 0, Group := r_6.1, Last := r_6.2, Slot := 0 } : T52) >>= fun r_9 =>
     (ih (.p59_2 free n slot r_9.2)))
   else
    (ih (.p59_2 free n slot c))))
 | .p59_2 free n slot c =>
  (ih (.e26 c n) >>= fun r_11 =>
   (if free = true then
    (HF27 fu ({ r_11 with free := IntKind.wrap .i64 (r_11.free - 1) } : T65) ({ Kind := 8, Set := (Arr.rep 4 0), To := 0, Group := 0, Last := 0, Slot := slot } : T52) >>= fun r_15 =>
     (some r_15.2))
   else
    (some r_11)))
noncomputable def HG26r (fu : Nat)  : St26r → Option T65 :=
 Nat.rec (motive := fun _ => St26r → Option T65) (fun _ => none) (fun fu ih => SG26r fu ih) fu
theorem HG26r_s (fu : Nat)  (st : St26r) : HG26r (fu + 1) st = SG26r fu (HG26r fu) st := rfl
theorem leG26r (fu : Nat) (st : St26r) : Le (HG26r fu st) (G26r st) := by
  induction fu generalizing st with
  | zero => exact le_none _
  | succ fu ih =>
    cases st
    · rw [HG26r_s, G26r.eq_1]
      unfold SG26r
      dsimp only
      generalize HG26r fu = hh at ih ⊢
      repeat' (with_reducible first | exact ih _ | exact leF39 fu | exact leF46 fu _ _ | exact leF47 fu _ _ | exact leF50 fu _ _ | exact leF48 fu _ _ | exact leF49 fu _ _ | exact leF27 fu _ _ | exact leF38 fu _ | exact le_refl _ | apply le_ite | refine le_bind ?_ (fun _ => ?_))
    · rw [HG26r_s, G26r.eq_2]
      unfold SG26r
      dsimp only
      generalize HG26r fu = hh at ih ⊢
      repeat' (with_reducible first | exact ih _ | exact leF39 fu | exact leF46 fu _ _ | exact leF47 fu _ _ | exact leF50 fu _ _ | exact leF48 fu _ _ | exact leF49 fu _ _ | exact leF27 fu _ _ | exact leF38 fu _ | exact le_refl _ | apply le_ite | refine le_bind ?_ (fun _ => ?_))
    · rw [HG26r_s, G26r.eq_3]
      unfold SG26r
      dsimp only
      generalize HG26r fu = hh at ih ⊢
      repeat' (with_reducible first | exact ih _ | exact leF39 fu | exact leF46 fu _ _ | exact leF47 fu _ _ | exact leF50 fu _ _ | exact leF48 fu _ _ | exact leF49 fu _ _ | exact leF27 fu _ _ | exact leF38 fu _ | exact le_refl _ | apply le_ite | refine le_bind ?_ (fun _ => ?_))
    · rw [HG26r_s, G26r.eq_4]
      unfold SG26r
      dsimp only
      generalize HG26r fu = hh at ih ⊢
      repeat' (with_reducible first | exact ih _ | exact leF39 fu | exact leF46 fu _ _ | exact leF47 fu _ _ | exact leF50 fu _ _ | exact leF48 fu _ _ | exact leF49 fu _ _ | exact leF27 fu _ _ | exact leF38 fu _ | exact le_refl _ | apply le_ite | refine le_bind ?_ (fun _ => ?_))
    · rw [HG26r_s, G26r.eq_5]
      unfold SG26r
      dsimp only
      generalize HG26r fu = hh at ih ⊢
      repeat' (with_reducible first | exact ih _ | exact leF39 fu | exact leF46 fu _ _ | exact leF47 fu _ _ | exact leF50 fu _ _ | exact leF48 fu _ _ | exact leF49 fu _ _ | exact leF27 fu _ _ | exact leF38 fu _ | exact le_refl _ | apply le_ite | refine le_bind ?_ (fun _ => ?_))
    · rw [HG26r_s, G26r.eq_6]
      unfold SG26r
      dsimp only
      generalize HG26r fu = hh at ih ⊢
      repeat' (with_reducible first | exact ih _ | exact leF39 fu | exact leF46 fu _ _ | exact leF47 fu _ _ | exact leF50 fu _ _ | exact leF48 fu _ _ | exact leF49 fu _ _ | exact leF27 fu _ _ | exact leF38 fu _ | exact le_refl _ | apply le_ite | refine le_bind ?_ (fun _ => ?_))
    · rw [HG26r_s, G26r.eq_7]
      unfold SG26r
      dsimp only
      generalize HG26r fu = hh at ih ⊢
      repeat' (with_reducible first | exact ih _ | exact leF39 fu | exact leF46 fu _ _ | exact leF47 fu _ _ | exact leF50 fu _ _ | exact leF48 fu _ _ | exact leF49 fu _ _ | exact leF27 fu _ _ | exact leF38 fu _ | exact le_refl _ | apply le_ite | refine le_bind ?_ (fun _ => ?_))
    · rw [HG26r_s, G26r.eq_8]
      unfold SG26r
      dsimp only
      generalize HG26r fu = hh at ih ⊢
      repeat' (with_reducible first | exact ih _ | exact leF39 fu | exact leF46 fu _ _ | exact leF47 fu _ _ | exact leF50 fu _ _ | exact leF48 fu _ _ | exact leF49 fu _ _ | exact leF27 fu _ _ | exact leF38 fu _ | exact le_refl _ | apply le_ite | refine le_bind ?_ (fun _ => ?_))
    · rw [HG26r_s, G26r.eq_9]
      unfold SG26r
      dsimp only
      generalize HG26r fu = hh at ih ⊢
      repeat' (with_reducible first | exact ih _ | exact leF39 fu | exact leF46 fu _ _ | exact leF47 fu _ _ | exact leF50 fu _ _ | exact leF48 fu _ _ | exact leF49 fu _ _ | exact leF27 fu _ _ | exact leF38 fu _ | exact le_refl _ | apply le_ite | refine le_bind ?_ (fun _ => ?_))
    · rw [HG26r_s, G26r.eq_10]
      unfold SG26r
      dsimp only
      generalize HG26r fu = hh at ih ⊢
      repeat' (with_reducible first | exact ih _ | exact leF39 fu | exact leF46 fu _ _ | exact leF47 fu _ _ | exact leF50 fu _ _ | exact leF48 fu _ _ | exact leF49 fu _ _ | exact leF27 fu _ _ | exact leF38 fu _ | exact le_refl _ | apply le_ite | refine le_bind ?_ (fun _ => ?_))
    · rw [HG26r_s, G26r.eq_11]
      unfold SG26r
      dsimp only
      generalize HG26r fu = hh at ih ⊢
      repeat' (with_reducible first | exact ih _ | exact leF39 fu | exact leF46 fu _ _ | exact leF47 fu _ _ | exact leF50 fu _ _ | exact leF48 fu _ _ | exact leF49 fu _ _ | exact leF27 fu _ _ | exact leF38 fu _ | exact le_refl _ | apply le_ite | refine le_bind ?_ (fun _ => ?_))
    · rw [HG26r_s, G26r.eq_12]
      unfold SG26r
      dsimp only
      generalize HG26r fu = hh at ih ⊢
      repeat' (with_reducible first | exact ih _ | exact leF39 fu | exact leF46 fu _ _ | exact leF47 fu _ _ | exact leF50 fu _ _ | exact leF48 fu _ _ | exact leF49 fu _ _ | exact leF27 fu _ _ | exact leF38 fu _ | exact le_refl _ | apply le_ite | refine le_bind ?_ (fun _ => ?_))
    · rw [HG26r_s, G26r.eq_13]
      unfold SG26r
      dsimp only
      generalize HG26r fu = hh at ih ⊢
      repeat' (with_reducible first | exact ih _ | exact leF39 fu | exact leF46 fu _ _ | exact leF47 fu _ _ | exact leF50 fu _ _ | exact leF48 fu _ _ | exact leF49 fu _ _ | exact leF27 fu _ _ | exact leF38 fu _ | exact le_refl _ | apply le_ite | refine le_bind ?_ (fun _ => ?_))
    · rw [HG26r_s, G26r.eq_14]
      unfold SG26r
      dsimp only
      generalize HG26r fu = hh at ih ⊢
      repeat' (with_reducible first | exact ih _ | exact leF39 fu | exact leF46 fu _ _ | exact leF47 fu _ _ | exact leF50 fu _ _ | exact leF48 fu _ _ | exact leF49 fu _ _ | exact leF27 fu _ _ | exact leF38 fu _ | exact le_refl _ | apply le_ite | refine le_bind ?_ (fun _ => ?_))
    · rw [HG26r_s, G26r.eq_15]
      unfold SG26r
      dsimp only
      generalize HG26r fu = hh at ih ⊢
      repeat' (with_reducible first | exact ih _ | exact leF39 fu | exact leF46 fu _ _ | exact leF47 fu _ _ | exact leF50 fu _ _ | exact leF48 fu _ _ | exact leF49 fu _ _ | exact leF27 fu _ _ | exact leF38 fu _ | exact le_refl _ | apply le_ite | refine le_bind ?_ (fun _ => ?_))
noncomputable def HF26 (fu : Nat) (c : T65) (n : T27) : Option T65 := HG26r fu (.e26 c n)
theorem leF26 (fu : Nat) (c : T65) (n : T27) : Le (HF26 fu c n) (F26 c n) := by
  unfold HF26 F26
  repeat' (with_reducible first | exact leG26r fu _ | exact le_refl _ | apply le_ite | refine le_bind ?_ (fun _ => ?_))
noncomputable def HF10 (fu : Nat) (n : T27) : Option (T34 × Int) :=
 (HF9 fu n >>= fun r_2 =>
  (if (r_2.2 != 0) = true then
   (some (({ Groups := 0, Slots := 0, Code := none } : T34), r_2.2))
  else
   (HF26 fu ({ code := (none : Sl T52), slots := 0, free := 0 } : T65) n >>= fun r_7 =>
    (HF27 fu r_7 ({ Kind := 12, Set := (Arr.rep 4 0), To := 0, Group := 0, Last := 0, Slot := 0 } : T52) >>= fun r_9 =>
     (HF28 fu n >>= fun r_12 =>
      (some (({ Groups := r_12, Slots := r_9.2.slots, Code := r_9.2.code } : T34), 0)))))))
theorem leF10 (fu : Nat) (n : T27) : Le (HF10 fu n) (F10 n) := by
  unfold HF10 F10
  repeat' (with_reducible first | exact leF9 fu _ | exact leF26 fu _ _ | exact leF27 fu _ _ | exact leF28 fu _ | exact le_refl _ | apply le_ite | refine le_bind ?_ (fun _ => ?_))
noncomputable def HF44 (fu : Nat) (s : Arr 4 Int) (c : Int) : Option Bool :=
 (if (0 : Int) ≤ (IntKind.wrap .u8 (Int.tdiv c 64)) ∧ (IntKind.wrap .u8 (Int.tdiv c 64)) < (4 : Int) then
  (ix s.l (IntKind.wrap .u8 (Int.tdiv c 64)) >>= fun v_2 =>
   (if 0 ≤ (Int.tmod c 64) then
    (some ((andI .u64 (shrI .u64 v_2 (Int.tmod c 64)) 1) == 1))
   else none))
 else none)
theorem leF44 (fu : Nat) (s : Arr 4 Int) (c : Int) : Le (HF44 fu s c) (F44 s c) := by
  unfold HF44 F44
  repeat' (with_reducible first | exact le_refl _ | apply le_ite | refine le_bind ?_ (fun _ => ?_))
noncomputable def HF43 (fu : Nat) (p : T34) (text : Str) (place : Int) (from_ : Sl Int) : Option (T34 × Sl Int × Int × Str) :=
 (some (p, from_, place, text))
theorem leF43 (fu : Nat) (p : T34) (text : Str) (place : Int) (from_ : Sl Int) : Le (HF43 fu p text place from_) (F43 p text place from_) := by
  unfold HF43 F43
  repeat' (with_reducible first | exact le_refl _ | apply le_ite | refine le_bind ?_ (fun _ => ?_))
noncomputable def SG57 (fu : Nat) {σ : Type} (Y : Int → σ → Option (Bool × σ)) (ih : St57 σ → Option σ) : St57 σ → Option σ := fun st => match st with
 | .p1 t1_ t3_ t4_ t18_ t19_ t20_ s_ s =>
  (if (decide (t20_ < t19_)) = true then
   (ix (ls t18_) t20_ >>= fun v_6 =>
    (HF58 fu s v_6 >>= fun r_8 =>
     (ih (.p1 t1_ t3_ t4_ t18_ t19_ (IntKind.wrap .i64 (t20_ + 1)) s_ r_8.2))))
  else
   (ih (.p2 t1_ t3_ t4_ 0 s_ s)))
 | .p2 t1_ t3_ t4_ k s_ s =>
  (if (decide (k < ((ls s.list).length : Int))) = true then
   (ix (ls s.list) k >>= fun v_13 =>
    (Y v_13 s_ >>= fun r_15 =>
     (if (!r_15.1) = true then
      (some r_15.2)
     else
      (ix (ls t1_.Code) v_13 >>= fun v_18 =>
       (if (v_18.Kind == 1) = true then
        (ih (.p2 t1_ t3_ t4_ (IntKind.wrap .i64 (k + 1)) r_15.2 s))
       else
        (if (v_18.Kind == 12) = true then
         (ih (.p2 t1_ t3_ t4_ (IntKind.wrap .i64 (k + 1)) r_15.2 s))
        else
         (if (v_18.Kind == 2) = true then
          (HF58 fu s (IntKind.wrap .i64 (v_13 + 1)) >>= fun r_24 =>
           (HF58 fu r_24.2 v_18.To >>= fun r_26 =>
            (ih (.p2 t1_ t3_ t4_ (IntKind.wrap .i64 (k + 1)) r_15.2 r_26.2))))
         else
          (if (v_18.Kind == 3) = true then
           (HF58 fu s v_18.To >>= fun r_29 =>
            (ih (.p2 t1_ t3_ t4_ (IntKind.wrap .i64 (k + 1)) r_15.2 r_29.2)))
          else
           (if (v_18.Kind == 10) = true then
            (if (t3_ == 0) = true then
             (HF58 fu s (IntKind.wrap .i64 (v_13 + 1)) >>= fun r_33 =>
              (ih (.p2 t1_ t3_ t4_ (IntKind.wrap .i64 (k + 1)) r_15.2 r_33.2)))
            else
             (ih (.p2 t1_ t3_ t4_ (IntKind.wrap .i64 (k + 1)) r_15.2 s)))
           else
            (if (v_18.Kind == 11) = true then
             (if (t3_ == ((t4_).length : Int)) = true then
              (HF58 fu s (IntKind.wrap .i64 (v_13 + 1)) >>= fun r_37 =>
               (ih (.p2 t1_ t3_ t4_ (IntKind.wrap .i64 (k + 1)) r_15.2 r_37.2)))
             else
              (ih (.p2 t1_ t3_ t4_ (IntKind.wrap .i64 (k + 1)) r_15.2 s)))
            else
             (HF58 fu s (IntKind.wrap .i64 (v_13 + 1)) >>= fun r_39 =>
              (ih (.p2 t1_ t3_ t4_ (IntKind.wrap .i64 (k + 1)) r_15.2 r_39.2)))))))))))))
  else
   (some s_))
noncomputable def HG57 (fu : Nat) {σ : Type} (Y : Int → σ → Option (Bool × σ)) : St57 σ → Option σ :=
 Nat.rec (motive := fun _ => St57 σ → Option σ) (fun _ => none) (fun fu ih => SG57 fu Y ih) fu
theorem HG57_s (fu : Nat) {σ : Type} (Y : Int → σ → Option (Bool × σ)) (st : St57 σ) : HG57 (fu + 1) Y st = SG57 fu Y (HG57 fu Y) st := rfl
theorem leG57 (fu : Nat) {σ : Type} (Y Y2 : Int → σ → Option (Bool × σ)) (hY : ∀ a b, Le (Y a b) (Y2 a b)) (st : St57 σ) : Le (HG57 fu Y st) (G57 Y2 st) := by
  induction fu generalizing st with
  | zero => exact le_none _
  | succ fu ih =>
    cases st
    · rw [HG57_s, G57.eq_1]
      unfold SG57
      dsimp only
      generalize HG57 fu Y = hh at ih ⊢
      repeat' (with_reducible first | exact ih _ | exact hY _ _ | exact leF58 fu _ _ | exact le_refl _ | apply le_ite | refine le_bind ?_ (fun _ => ?_))
    · rw [HG57_s, G57.eq_2]
      unfold SG57
      dsimp only
      generalize HG57 fu Y = hh at ih ⊢
      repeat' (with_reducible first | exact ih _ | exact hY _ _ | exact leF58 fu _ _ | exact le_refl _ | apply le_ite | refine le_bind ?_ (fun _ => ?_))
noncomputable def HF57 (fu : Nat) {σ : Type} (Y : Int → σ → Option (Bool × σ)) (d0_ : T34) (d1_ : Sl Int) (d2_ : Int) (d3_ : Str) (s_ : σ) : Option σ :=
 (if 0 ≤ ((ls d0_.Code).length : Int) ∧ ((ls d0_.Code).length : Int) = ((ls d0_.Code).length : Int) ∧ (1 : Int) * ((ls d0_.Code).length : Int) ≤ 281474976710656 then
  (HG57 fu Y (.p1 d0_ d2_ d3_ d1_ ((ls d1_).length : Int) 0 s_ ({ in_ := (some (List.replicate (Int.toNat ((ls d0_.Code).length : Int)) (false : Bool))), list := (none : Sl Int) } : T92)))
 else none)
theorem leF57 (fu : Nat) {σ : Type} (Y Y2 : Int → σ → Option (Bool × σ)) (d0_ : T34) (d1_ : Sl Int) (d2_ : Int) (d3_ : Str) (s_ : σ) (hY : ∀ a b, Le (Y a b) (Y2 a b)) : Le (HF57 fu Y d0_ d1_ d2_ d3_ s_) (F57 Y2 d0_ d1_ d2_ d3_ s_) := by
  unfold HF57 F57
  repeat' (with_reducible first | exact hY _ _ | exact leG57 fu _ _ (fun _ _ => by first | exact hY _ _ ) _ | exact le_refl _ | apply le_ite | refine le_bind ?_ (fun _ => ?_))
noncomputable def HB33_1 (fu : Nat) (p : T34) (s : Str) (t6_ : Sl Int) (now : Sl Int) (t24_ : T34) (t24_2 : Sl Int) (t24_3 : Int) (t24_4 : Str) (x : Int) (zz : (Sl Int) × Int × (Sl Int) × Nat) : Option (Bool × ((Sl Int) × Int × (Sl Int) × Nat)) := if zz.2.2.2 = 0 then
 (ix (ls p.Code) x >>= fun v_1 =>
  (if (v_1.Kind == 12) = true then
   (if ((ls zz.1).length + (ls (some ([zz.2.1] : List Int))).length) * 8 ≤ 140737488355328 then
    (some (true, (sapp zz.1 (ls (some ([zz.2.1] : List Int))), zz.2.1, zz.2.2.1, 0)))
   else none)
  else
   (if (v_1.Kind == 1) = true then
    (if (decide (zz.2.1 < ((s).length : Int))) = true then
     (ix s zz.2.1 >>= fun b_11 =>
      (HF44 fu v_1.Set (b_11.toNat : Int) >>= fun r_13 =>
       (if r_13 = true then
        (if ((ls zz.2.2.1).length + (ls (some ([IntKind.wrap .i64 (x + 1)] : List Int))).length) * 8 ≤ 140737488355328 then
         (some (true, (zz.1, zz.2.1, sapp zz.2.2.1 (ls (some ([IntKind.wrap .i64 (x + 1)] : List Int))), 0)))
        else none)
       else
        (some (true, (zz.1, zz.2.1, zz.2.2.1, 0))))))
    else
     (some (true, (zz.1, zz.2.1, zz.2.2.1, 0))))
   else
    (some (true, (zz.1, zz.2.1, zz.2.2.1, 0))))))
else none
theorem leB33_1 (fu : Nat) (p : T34) (s : Str) (t6_ : Sl Int) (now : Sl Int) (t24_ : T34) (t24_2 : Sl Int) (t24_3 : Int) (t24_4 : Str) (x : Int) (zz : (Sl Int) × Int × (Sl Int) × Nat) : Le (HB33_1 fu p s t6_ now t24_ t24_2 t24_3 t24_4 x zz) (B33_1 p s t6_ now t24_ t24_2 t24_3 t24_4 x zz) := by
  unfold HB33_1 B33_1
  repeat' (with_reducible first | exact leF44 fu _ _ | exact le_refl _ | apply le_ite | refine le_bind ?_ (fun _ => ?_))
noncomputable def SG33 (fu : Nat)  (ih : St33 → Option (Sl Int)) : St33 → Option (Sl Int) := fun st => match st with
 | .p1 p s t6_ now out place =>
  (if (decide (((ls now).length : Int) > 0)) = true then
   (HF43 fu p s place now >>= fun r_8 =>
    (ih (.p2 p s t6_ now r_8.1 r_8.2.1 r_8.2.2.1 r_8.2.2.2 out place (none : Sl Int))))
  else
   (some out))
 | .p2 p s t6_ now t24_ t24_2 t24_3 t24_4 out place next =>
  (HF57 fu (HB33_1 fu p s t6_ now t24_ t24_2 t24_3 t24_4) t24_ t24_2 t24_3 t24_4 (out, place, next, 0) >>= fun r_11 =>
   (if r_11.2.2.2 = 0 then
    (ih (.p1 p s t6_ r_11.2.2.1 r_11.1 (IntKind.wrap .i64 (r_11.2.1 + 1))))
   else
    none))
noncomputable def HG33 (fu : Nat)  : St33 → Option (Sl Int) :=
 Nat.rec (motive := fun _ => St33 → Option (Sl Int)) (fun _ => none) (fun fu ih => SG33 fu ih) fu
theorem HG33_s (fu : Nat)  (st : St33) : HG33 (fu + 1) st = SG33 fu (HG33 fu) st := rfl
theorem leG33 (fu : Nat) (st : St33) : Le (HG33 fu st) (G33 st) := by
  induction fu generalizing st with
  | zero => exact le_none _
  | succ fu ih =>
    cases st
    · rw [HG33_s, G33.eq_1]
      unfold SG33
      dsimp only
      generalize HG33 fu = hh at ih ⊢
      repeat' (with_reducible first | exact ih _ | exact leF43 fu _ _ _ _ | exact leF57 fu _ _ _ _ _ _ _ (fun _ _ => by first | exact leB33_1 fu _ _ _ _ _ _ _ _ _ _) | exact leB33_1 fu _ _ _ _ _ _ _ _ _ _ | exact le_refl _ | apply le_ite | refine le_bind ?_ (fun _ => ?_))
    · rw [HG33_s, G33.eq_2]
      unfold SG33
      dsimp only
      generalize HG33 fu = hh at ih ⊢
      repeat' (with_reducible first | exact ih _ | exact leF43 fu _ _ _ _ | exact leF57 fu _ _ _ _ _ _ _ (fun _ _ => by first | exact leB33_1 fu _ _ _ _ _ _ _ _ _ _) | exact leB33_1 fu _ _ _ _ _ _ _ _ _ _ | exact le_refl _ | apply le_ite | refine le_bind ?_ (fun _ => ?_))
noncomputable def HF33 (fu : Nat) (p : T34) (s : Str) (from_ : Int) : Option (Sl Int) :=
 (HG33 fu (.p1 p s none (some ([0] : List Int)) (none : Sl Int) from_))
theorem leF33 (fu : Nat) (p : T34) (s : Str) (from_ : Int) : Le (HF33 fu p s from_) (F33 p s from_) := by
  unfold HF33 F33
  repeat' (with_reducible first | exact leG33 fu _ | exact le_refl _ | apply le_ite | refine le_bind ?_ (fun _ => ?_))
noncomputable def HF56 (fu : Nat) (x_ : T52) : Option Bool :=
 (some (x_.Kind == 9))
theorem leF56 (fu : Nat) (x_ : T52) : Le (HF56 fu x_) (F56 x_) := by
  unfold HF56 F56
  repeat' (with_reducible first | exact le_refl _ | apply le_ite | refine le_bind ?_ (fun _ => ?_))
noncomputable def SG60 (fu : Nat)  (ih : St60 → Option Int) : St60 → Option Int := fun st => match st with
 | .p1 s t7_ t8_ =>
  (if (decide (t8_ < t7_)) = true then
   (ix (ls s) t8_ >>= fun v_2 =>
    (HF56 fu v_2 >>= fun r_4 =>
     (if r_4 = true then
      (some t8_)
     else
      (ih (.p1 s t7_ (IntKind.wrap .i64 (t8_ + 1)))))))
  else
   (some (-1)))
noncomputable def HG60 (fu : Nat)  : St60 → Option Int :=
 Nat.rec (motive := fun _ => St60 → Option Int) (fun _ => none) (fun fu ih => SG60 fu ih) fu
theorem HG60_s (fu : Nat)  (st : St60) : HG60 (fu + 1) st = SG60 fu (HG60 fu) st := rfl
theorem leG60 (fu : Nat) (st : St60) : Le (HG60 fu st) (G60 st) := by
  induction fu generalizing st with
  | zero => exact le_none _
  | succ fu ih =>
    cases st
    · rw [HG60_s, G60.eq_1]
      unfold SG60
      dsimp only
      generalize HG60 fu = hh at ih ⊢
      repeat' (with_reducible first | exact ih _ | exact leF56 fu _ | exact le_refl _ | apply le_ite | refine le_bind ?_ (fun _ => ?_))
noncomputable def HF60 (fu : Nat) (s : Sl T52) : Option Int :=
 (HG60 fu (.p1 s ((ls s).length : Int) 0))
theorem leF60 (fu : Nat) (s : Sl T52) : Le (HF60 fu s) (F60 s) := by
  unfold HF60 F60
  repeat' (with_reducible first | exact leG60 fu _ | exact le_refl _ | apply le_ite | refine le_bind ?_ (fun _ => ?_))
noncomputable def HF55 (fu : Nat) (s : Sl T52) : Option Bool :=
 (HF60 fu s >>= fun r_1 =>
  (some (decide (r_1 ≥ 0))))
theorem leF55 (fu : Nat) (s : Sl T52) : Le (HF55 fu s) (F55 s) := by
  unfold HF55 F55
  repeat' (with_reducible first | exact leF60 fu _ | exact le_refl _ | apply le_ite | refine le_bind ?_ (fun _ => ?_))
noncomputable def HF42 (fu : Nat) (p : T34) : Option Bool :=
 (HF55 fu p.Code >>= fun r_1 =>
  (some r_1))
theorem leF42 (fu : Nat) (p : T34) : Le (HF42 fu p) (F42 p) := by
  unfold HF42 F42
  repeat' (with_reducible first | exact leF55 fu _ | exact le_refl _ | apply le_ite | refine le_bind ?_ (fun _ => ?_))
noncomputable def SG11 (fu : Nat)  (ih : St11 → Option Bool) : St11 → Option Bool := fun st => match st with
 | .p1 p n t38_ t39_ t40_ =>
  (if (decide (t40_ < t39_)) = true then
   (ix (ls t38_) t40_ >>= fun v_8 =>
    (if (v_8.Kind == 1) = true then
     (ih (.p2 p n t40_ true t38_ t39_ t40_ v_8 ({ Kind := v_8.Kind, Set := v_8.Set, To := 0, Group := 0, Last := 0, Slot := 0 } : T52)))
    else
     (if (v_8.Kind == 2) = true then
      (ih (.p3 p n t40_ t38_ t39_ t40_ v_8 ({ Kind := v_8.Kind, Set := (Arr.rep 4 0), To := 0, Group := 0, Last := 0, Slot := 0 } : T52)))
     else
      (if (v_8.Kind == 3) = true then
       (ih (.p3 p n t40_ t38_ t39_ t40_ v_8 ({ Kind := v_8.Kind, Set := (Arr.rep 4 0), To := 0, Group := 0, Last := 0, Slot := 0 } : T52)))
      else
       (if (v_8.Kind == 4) = true then
        (ih (.p4 p n t40_ t38_ t39_ t40_ v_8 ({ Kind := v_8.Kind, Set := (Arr.rep 4 0), To := 0, Group := 0, Last := 0, Slot := 0 } : T52)))
       else
        (if (v_8.Kind == 5) = true then
         (ih (.p4 p n t40_ t38_ t39_ t40_ v_8 ({ Kind := v_8.Kind, Set := (Arr.rep 4 0), To := 0, Group := 0, Last := 0, Slot := 0 } : T52)))
        else
         (if (v_8.Kind == 9) = true then
          (ih (.p4 p n t40_ t38_ t39_ t40_ v_8 ({ Kind := v_8.Kind, Set := (Arr.rep 4 0), To := 0, Group := 0, Last := 0, Slot := 0 } : T52)))
         else
          (if (v_8.Kind == 6) = true then
           (if (decide (v_8.Group ≥ 1)) = true then
            (if (decide (v_8.Group ≤ p.Groups)) = true then
             (if (decide (v_8.Last ≥ v_8.Group)) = true then
              (ih (.p2 p n t40_ (decide (v_8.Last ≤ p.Groups)) t38_ t39_ t40_ v_8 ({ Kind := v_8.Kind, Set := (Arr.rep 4 0), To := 0, Group := v_8.Group, Last := v_8.Last, Slot := 0 } : T52)))
             else
              (ih (.p2 p n t40_ false t38_ t39_ t40_ v_8 ({ Kind := v_8.Kind, Set := (Arr.rep 4 0), To := 0, Group := v_8.Group, Last := v_8.Last, Slot := 0 } : T52))))
            else
             (ih (.p2 p n t40_ false t38_ t39_ t40_ v_8 ({ Kind := v_8.Kind, Set := (Arr.rep 4 0), To := 0, Group := v_8.Group, Last := v_8.Last, Slot := 0 } : T52))))
           else
            (ih (.p2 p n t40_ false t38_ t39_ t40_ v_8 ({ Kind := v_8.Kind, Set := (Arr.rep 4 0), To := 0, Group := v_8.Group, Last := v_8.Last, Slot := 0 } : T52))))
          else
           (if (v_8.Kind == 7) = true then
            (ih (.p5 p n t40_ t38_ t39_ t40_ v_8 ({ Kind := v_8.Kind, Set := (Arr.rep 4 0), To := 0, Group := 0, Last := 0, Slot := 0 } : T52)))
           else
            (if (v_8.Kind == 8) = true then
             (ih (.p5 p n t40_ t38_ t39_ t40_ v_8 ({ Kind := v_8.Kind, Set := (Arr.rep 4 0), To := 0, Group := 0, Last := 0, Slot := 0 } : T52)))
            else
             (if (v_8.Kind == 10) = true then
              (ih (.p2 p n t40_ true t38_ t39_ t40_ v_8 ({ Kind := v_8.Kind, Set := (Arr.rep 4 0), To := 0, Group := 0, Last := 0, Slot := 0 } : T52)))
             else
              (if (v_8.Kind == 11) = true then
               (ih (.p2 p n t40_ true t38_ t39_ t40_ v_8 ({ Kind := v_8.Kind, Set := (Arr.rep 4 0), To := 0, Group := 0, Last := 0, Slot := 0 } : T52)))
              else
               (if (v_8.Kind == 12) = true then
                (ih (.p2 p n t40_ true t38_ t39_ t40_ v_8 ({ Kind := v_8.Kind, Set := (Arr.rep 4 0), To := 0, Group := 0, Last := 0, Slot := 0 } : T52)))
               else
                (some false))))))))))))))
  else
   (some true))
 | .p2 p n i ok t38_ t39_ t40_ x_ plain =>
  (if (!ok) = true then
   (some false)
  else
   (if (!decide (plain = x_)) = true then
    (some false)
   else
    (if (!((x_.Kind == 12) == (i == (IntKind.wrap .i64 (n - 1))))) = true then
     (some false)
    else
     (ih (.p1 p n t38_ t39_ (IntKind.wrap .i64 (t40_ + 1)))))))
 | .p3 p n i t38_ t39_ t40_ x_ plain =>
  (if (decide (x_.To ≥ 0)) = true then
   (ih (.p2 p n i (decide (x_.To < n)) t38_ t39_ t40_ x_ ({ plain with To := x_.To } : T52)))
  else
   (ih (.p2 p n i false t38_ t39_ t40_ x_ ({ plain with To := x_.To } : T52))))
 | .p4 p n i t38_ t39_ t40_ x_ plain =>
  (if (decide (x_.Group ≥ 1)) = true then
   (ih (.p2 p n i (decide (x_.Group ≤ p.Groups)) t38_ t39_ t40_ x_ ({ plain with Group := x_.Group } : T52)))
  else
   (ih (.p2 p n i false t38_ t39_ t40_ x_ ({ plain with Group := x_.Group } : T52))))
 | .p5 p n i t38_ t39_ t40_ x_ plain =>
  (if (decide (x_.Slot ≥ 0)) = true then
   (ih (.p2 p n i (decide (x_.Slot < p.Slots)) t38_ t39_ t40_ x_ ({ plain with Slot := x_.Slot } : T52)))
  else
   (ih (.p2 p n i false t38_ t39_ t40_ x_ ({ plain with Slot := x_.Slot } : T52))))
noncomputable def HG11 (fu : Nat)  : St11 → Option Bool :=
 Nat.rec (motive := fun _ => St11 → Option Bool) (fun _ => none) (fun fu ih => SG11 fu ih) fu
theorem HG11_s (fu : Nat)  (st : St11) : HG11 (fu + 1) st = SG11 fu (HG11 fu) st := rfl
theorem leG11 (fu : Nat) (st : St11) : Le (HG11 fu st) (G11 st) := by
  induction fu generalizing st with
  | zero => exact le_none _
  | succ fu ih =>
    cases st
    · rw [HG11_s, G11.eq_1]
      unfold SG11
      dsimp only
      generalize HG11 fu = hh at ih ⊢
      repeat' (with_reducible first | exact ih _ | exact le_refl _ | apply le_ite | refine le_bind ?_ (fun _ => ?_))
    · rw [HG11_s, G11.eq_2]
      unfold SG11
      dsimp only
      generalize HG11 fu = hh at ih ⊢
      repeat' (with_reducible first | exact ih _ | exact le_refl _ | apply le_ite | refine le_bind ?_ (fun _ => ?_))
    · rw [HG11_s, G11.eq_3]
      unfold SG11
      dsimp only
      generalize HG11 fu = hh at ih ⊢
      repeat' (with_reducible first | exact ih _ | exact le_refl _ | apply le_ite | refine le_bind ?_ (fun _ => ?_))
    · rw [HG11_s, G11.eq_4]
      unfold SG11
      dsimp only
      generalize HG11 fu = hh at ih ⊢
      repeat' (with_reducible first | exact ih _ | exact le_refl _ | apply le_ite | refine le_bind ?_ (fun _ => ?_))
    · rw [HG11_s, G11.eq_5]
      unfold SG11
      dsimp only
      generalize HG11 fu = hh at ih ⊢
      repeat' (with_reducible first | exact ih _ | exact le_refl _ | apply le_ite | refine le_bind ?_ (fun _ => ?_))
noncomputable def HF11 (fu : Nat) (p : T34) : Option Bool :=
 (if (decide (p.Groups < 0)) = true then
  (some false)
 else
  (if (decide (p.Groups > 99)) = true then
   (some false)
  else
   (if (decide (p.Slots < 0)) = true then
    (some false)
   else
    (if (decide (p.Slots > 16384)) = true then
     (some false)
    else
     (if (decide (((ls p.Code).length : Int) < 1)) = true then
      (some false)
     else
      (if (decide (((ls p.Code).length : Int) > 16384)) = true then
       (some false)
      else
       (HG11 fu (.p1 p ((ls p.Code).length : Int) p.Code ((ls p.Code).length : Int) 0))))))))
theorem leF11 (fu : Nat) (p : T34) : Le (HF11 fu p) (F11 p) := by
  unfold HF11 F11
  repeat' (with_reducible first | exact leG11 fu _ | exact le_refl _ | apply le_ite | refine le_bind ?_ (fun _ => ?_))
noncomputable def HF32 (fu : Nat) (p : T34) : Option Int :=
 (HF11 fu p >>= fun r_1 =>
  (if (!r_1) = true then
   (some 100)
  else
   (HF42 fu p >>= fun r_4 =>
    (if r_4 = true then
     (some 101)
    else
     (some 0)))))
theorem leF32 (fu : Nat) (p : T34) : Le (HF32 fu p) (F32 p) := by
  unfold HF32 F32
  repeat' (with_reducible first | exact leF11 fu _ | exact leF42 fu _ | exact le_refl _ | apply le_ite | refine le_bind ?_ (fun _ => ?_))
noncomputable def SG23 (fu : Nat)  (ih : St23 → Option (T56 × Bool × Int)) : St23 → Option (T56 × Bool × Int) := fun st => match st with
 | .p1 t6_ =>
  (some (({ From := 0, To := 0 } : T56), false, 2))
 | .p2 s p i t6_ =>
  (if (decide (i ≤ ((s).length : Int))) = true then
   (HF33 fu p s i >>= fun r_8 =>
    (if (decide (((ls r_8).length : Int) > 0)) = true then
     (ix (ls r_8) (IntKind.wrap .i64 (((ls r_8).length : Int) - 1)) >>= fun v_11 =>
      (some (({ From := i, To := v_11 } : T56), true, 0)))
    else
     (ih (.p2 s p (IntKind.wrap .i64 (i + 1)) t6_))))
  else
   (some (({ From := 0, To := 0 } : T56), false, 0)))
noncomputable def HG23 (fu : Nat)  : St23 → Option (T56 × Bool × Int) :=
 Nat.rec (motive := fun _ => St23 → Option (T56 × Bool × Int)) (fun _ => none) (fun fu ih => SG23 fu ih) fu
theorem HG23_s (fu : Nat)  (st : St23) : HG23 (fu + 1) st = SG23 fu (HG23 fu) st := rfl
theorem leG23 (fu : Nat) (st : St23) : Le (HG23 fu st) (G23 st) := by
  induction fu generalizing st with
  | zero => exact le_none _
  | succ fu ih =>
    cases st
    · rw [HG23_s, G23.eq_1]
      unfold SG23
      dsimp only
      generalize HG23 fu = hh at ih ⊢
      repeat' (with_reducible first | exact ih _ | exact leF33 fu _ _ _ | exact le_refl _ | apply le_ite | refine le_bind ?_ (fun _ => ?_))
    · rw [HG23_s, G23.eq_2]
      unfold SG23
      dsimp only
      generalize HG23 fu = hh at ih ⊢
      repeat' (with_reducible first | exact ih _ | exact leF33 fu _ _ _ | exact le_refl _ | apply le_ite | refine le_bind ?_ (fun _ => ?_))
noncomputable def HF23 (fu : Nat) (p : T34) (s : Str) (from_ : Int) : Option (T56 × Bool × Int) :=
 (HF32 fu p >>= fun r_2 =>
  (if (r_2 != 0) = true then
   (some (({ From := 0, To := 0 } : T56), false, r_2))
  else
   (if (decide (from_ < 0)) = true then
    (HG23 fu (.p1 ({ From := 0, To := 0 } : T56)))
   else
    (if (decide (from_ > ((s).length : Int))) = true then
     (HG23 fu (.p1 ({ From := 0, To := 0 } : T56)))
    else
     (HG23 fu (.p2 s p from_ ({ From := 0, To := 0 } : T56)))))))
theorem leF23 (fu : Nat) (p : T34) (s : Str) (from_ : Int) : Le (HF23 fu p s from_) (F23 p s from_) := by
  unfold HF23 F23
  repeat' (with_reducible first | exact leF32 fu _ | exact leG23 fu _ | exact le_refl _ | apply le_ite | refine le_bind ?_ (fun _ => ?_))
noncomputable def HF8 (fu : Nat)  : Option Bool :=
 (HF10 fu ({ Kind := 5, Set := (Arr.rep 4 0), Min := 1, Max := (-1), Group := 0, Kids := (some ([({ Kind := 2, Set := (aset (aset (Arr.rep 4 0) 0 0) 1 8589934592), Min := 0, Max := 0, Group := 0, Kids := none } : T27)] : List T27)) } : T27) >>= fun r_3 =>
  (HF9 fu ({ Kind := 5, Set := (Arr.rep 4 0), Min := 1, Max := (-1), Group := 0, Kids := (some ([({ Kind := 2, Set := (aset (aset (Arr.rep 4 0) 0 0) 1 8589934592), Min := 0, Max := 0, Group := 0, Kids := none } : T27)] : List T27)) } : T27) >>= fun r_6 =>
   (HF23 fu r_3.1 ([98, 97, 97] : Str) 0 >>= fun r_8 =>
    (if (r_3.2 == 0) = true then
     (if (r_6.2 == 0) = true then
      (if (r_6.1 == 7) = true then
       (if (((ls r_3.1.Code).length : Int) == 7) = true then
        (if (r_8.2.2 == 0) = true then
         (if r_8.2.1 = true then
          (some (decide (r_8.1 = ({ From := 1, To := 3 } : T56))))
         else
          (some false))
        else
         (some false))
       else
        (some false))
      else
       (some false))
     else
      (some false))
    else
     (some false)))))
theorem leF8 (fu : Nat)  : Le (HF8 fu ) (F8 ) := by
  unfold HF8 F8
  repeat' (with_reducible first | exact leF10 fu _ | exact leF9 fu _ | exact leF23 fu _ _ _ | exact le_refl _ | apply le_ite | refine le_bind ?_ (fun _ => ?_))
end Go.Proofs.Ytjbafmnocopofaa
