/-
  Texts of this proof, put together: NfE, DrA, DrB, Fu, Fu2, PureDerivRuns, PureUDerivRuns.
-/
import Derived.Test.YtcidnoghoifmmaaDoorPk35
import Derived.KernelRfl
import Derived.Test.YtcidnoghoifmmaaDoorPk33
section
/-
  Nfa: Ends, Whole and Match.
-/

namespace Go.Proofs.YtcidnoghoifmmaaDoor
open Go AW
set_option linter.unusedVariables false
set_option linter.unusedSimpArgs false
set_option maxHeartbeats 4000000
theorem nne {a b : Int} (h : a = b) : ¬ a ≠ b := fun k => k h
/-- The ends of the matches that begin at a place. -/
noncomputable def EN (p : T45) (s : Str) (i : Nat) : List Nat := (List.range' i (s.length + 1 - i)).filter (acc (ls p.Code) s i)
theorem f33' {p : T45} (hr : rp p = true) {s : Str} (hs : s.length ≤ 100000000) {i : Nat} (hi : i ≤ s.length) : F38 p s (i : Int) = some (so (ints (EN p s i))) := f33 hr hs hi
theorem en_len (p : T45) (s : Str) (i : Nat) : (EN p s i).length ≤ s.length + 1 := by
  have := List.length_filter_le (acc (ls p.Code) s i) (List.range' i (s.length + 1 - i))
  unfold EN
  simp at this
  omega
theorem flt_0 {p : T45} (h : flt p = 0) : rp p = true ∧ hb (ls p.Code) = false := by
  unfold flt at h
  split at h
  · rename_i h1
    split at h
    · simp at h
    · rename_i h2; exact ⟨h1, by simpa using h2⟩
  · simp at h
theorem g21 (t : T50) (l : List Int) (hl : l.length ≤ 1000000000) : ∀ (m k : Nat), m + k = l.length → G20 (.p1 t (so l) (l.length : Int) (k : Int)) = some (decide (t.To ∈ l.drop k), 0)
  | 0, k, h => by
    rw [G20.eq_1, dfi (by omega), List.drop_of_length_le (by omega)]; rfl
  | m + 1, k, h => by
    obtain ⟨x, hx⟩ := get_ex l (i := k) (by omega)
    rw [G20.eq_1, dti (by omega), ls_so, ixs hx, sm, drop_cons hx]
    by_cases e : x = t.To
    · rw [eti e]; simp [e]
    · rw [efi e, wn1 k (by omega), g21 t l hl m (k + 1) (by omega)]
      have e' : ¬ t.To = x := fun h => e h.symm
      simp [e']
theorem f21 (p : T45) {s : Str} (hs : s.length ≤ 100000000) (t : T50) : F20 p s t = some (if flt p ≠ 0 then (false, flt p) else if t.From < 0 ∨ t.To < t.From ∨ (s.length : Int) < t.To then (false, 2) else (decide (t.To ∈ ints (EN p s t.From.toNat)), 0)) := by
  unfold F20
  rw [f32, sm]
  by_cases h : flt p = 0
  · rw [nfi h, if_neg (nne h)]
    by_cases h1 : t.From < 0
    · rw [dti h1, if_pos (.inl h1)]
    rw [dfi h1]
    by_cases h2 : t.To < t.From
    · rw [dti h2, if_pos (.inr (.inl h2))]
    rw [dfi h2]
    by_cases h3 : t.To > (s.length : Int)
    · rw [dti h3, if_pos (.inr (.inr h3))]
    rw [dfi h3, if_neg (by omega)]
    obtain ⟨n, hn⟩ := nat_of (by omega : 0 ≤ t.From)
    have hl := en_len p s n
    rw [hn, f33' (flt_0 h).1 hs (by omega), sm, ls_so]
    have := g21 t (ints (EN p s n)) (by simp [ints]; omega) (ints (EN p s n)).length 0 (by omega)
    have this' : G20 (.p1 t (so (ints (EN p s n))) ((ints (EN p s n)).length : Int) 0) = some (decide (t.To ∈ (ints (EN p s n)).drop 0), 0) := this
    rw [this', List.drop_zero]; rfl
  · rw [nti h, if_pos h]
end Go.Proofs.YtcidnoghoifmmaaDoor
end
section
/-
  Deriv: which trees have anchors: it is told of every tree that is not too great.
-/


namespace Go.Proofs.YtcidnoghoifmmaaDoor
open Go AW
set_option linter.unusedVariables false
set_option linter.unusedSimpArgs false
set_option maxHeartbeats 4000000
theorem g49_1 (n : T27) (hl : (ls n.Kids).length ≤ 100000) (hn : ∀ k ∈ ls n.Kids, ∃ b, G49 (.e k) = some b) : ∀ (m i : Nat), m + i = (ls n.Kids).length → ∃ b, G49 (.p1 n.Kids ((ls n.Kids).length : Int) (i : Int)) = some b
  | 0, i, h => by rw [G49.eq_2, dfi (by omega)]; exact ⟨_, rfl⟩
  | m + 1, i, h => by
    obtain ⟨c, hc⟩ := get_ex (ls n.Kids) (i := i) (by omega)
    obtain ⟨b, hb⟩ := hn c (List.mem_of_getElem? hc)
    rw [G49.eq_2, dti (by omega), ixs hc, sm, hb, sm]
    cases b with
    | true => exact ⟨_, rfl⟩
    | false =>
      rw [fi_ rfl, wn1 i (by omega)]
      exact g49_1 n hl hn m (i + 1) (by omega)
theorem g49 : ∀ (c : Nat) (n : T27), cnt n ≤ c → c ≤ 100000 → ∃ b, G49 (.e n) = some b
  | 0, n, h, _ => by have := cnt_pos n; omega
  | c + 1, n, h, hc => by
    have h1 := cntl_len (ls n.Kids)
    have h2 := cnt_eq n
    have h3 := g49_1 n (by omega) (fun k hk => g49 c k (by have := cnt_kid hk; omega) (by omega)) (ls n.Kids).length 0 (by omega)
    have h3' : ∃ b, G49 (.p1 n.Kids ((ls n.Kids).length : Int) 0) = some b := h3
    rw [G49.eq_1]
    split
    · exact ⟨_, rfl⟩
    · split
      · exact ⟨_, rfl⟩
      · exact h3'
theorem f49 {n : T27} (h : cnt n ≤ 100000) : ∃ b, F49 n = some b := g49 100000 n h (Nat.le_refl _)
end Go.Proofs.YtcidnoghoifmmaaDoor
end
section
/-
  Deriv: which trees have back-references: it is told of every tree that is not too great.
-/

namespace Go.Proofs.YtcidnoghoifmmaaDoor
open Go AW
set_option linter.unusedVariables false
set_option linter.unusedSimpArgs false
set_option maxHeartbeats 4000000
mutual
def bk : T27 → Bool
  | ⟨k, _, _, _, _, o⟩ => (k == 7) || bko o
def bko : Option (List T27) → Bool
  | none => false
  | some l => bkl l
def bkl : List T27 → Bool
  | [] => false
  | x :: l => bk x || bkl l
end
theorem bk_eq (n : T27) : bk n = ((n.Kind == 7) || bkl (ls n.Kids)) := by
  obtain ⟨_, _, _, _, _, o⟩ := n
  rw [bk]
  cases o with
  | none => rfl
  | some l => rfl
theorem bkl_drop {l : List T27} {i : Nat} {k : T27} (h : l[i]? = some k) : bkl (l.drop i) = (bk k || bkl (l.drop (i + 1))) := by
  rw [List.drop_eq_getElem_cons (lt_of_getElem? h), bkl]
  have : l[i]'(lt_of_getElem? h) = k := by
    have := List.getElem?_eq_getElem (lt_of_getElem? h)
    rw [h] at this
    exact (Option.some.inj this).symm
  rw [this]
def bres (b : Bool) : Bool × (Bool × Nat) := match b with
  | true => (false, (true, 1))
  | false => (true, (false, 0))
theorem b48 (a x : T27) : B48_1 a x (false, 0) = some (bres (x.Kind == 7)) := by
  unfold B48_1
  rw [if_pos rfl]
  cases h : (x.Kind == 7) <;> rfl
theorem g48_1 (a n : T27) (hl : (ls n.Kids).length ≤ 100000) (hn : ∀ k ∈ ls n.Kids, G82 (B48_1 a) (.e k (false, 0)) = some (bres (bk k))) : ∀ (m i : Nat), m + i = (ls n.Kids).length → G82 (B48_1 a) (.p1 n ((ls n.Kids).length : Int) (i : Int) (false, 0)) = some (bres (bkl ((ls n.Kids).drop i)))
  | 0, i, h => by rw [G82.eq_2, dfi (by omega), List.drop_of_length_le (by omega)]; rfl
  | m + 1, i, h => by
    obtain ⟨k, hk⟩ := get_ex (ls n.Kids) (i := i) (by omega)
    rw [G82.eq_2, dti (by omega), ixs hk, sm, hn k (List.mem_of_getElem? hk), sm, bkl_drop hk]
    cases hb : bk k with
    | true => rfl
    | false =>
      show (if (!true) = true then _ else G82 (B48_1 a) (.p1 n ((ls n.Kids).length : Int) (IntKind.wrap .i64 ((i : Int) + 1)) (false, 0))) = _
      rw [if_neg (by decide), wn1 i (by omega), g48_1 a n hl hn m (i + 1) (by omega)]
      rfl
theorem g48 (a : T27) : ∀ (c : Nat) (n : T27), cnt n ≤ c → c ≤ 100000 → G82 (B48_1 a) (.e n (false, 0)) = some (bres (bk n))
  | 0, n, h, _ => by have := cnt_pos n; omega
  | c + 1, n, h, hc => by
    have h1 := cntl_len (ls n.Kids)
    have h2 := cnt_eq n
    have h3 := g48_1 a n (by omega) (fun k hk => g48 a c k (by have := cnt_kid hk; omega) (by omega)) (ls n.Kids).length 0 (by omega)
    have h3' : G82 (B48_1 a) (.p1 n ((ls n.Kids).length : Int) 0 (false, 0)) = _ := h3
    rw [G82.eq_1, b48, sm, bk_eq]
    cases hb : (n.Kind == 7) with
    | true => rfl
    | false =>
      show (if (!true) = true then _ else G82 (B48_1 a) (.p1 n ((ls n.Kids).length : Int) 0 (false, 0))) = _
      rw [if_neg (by decide), h3', List.drop_zero]
      rfl
theorem f48 {n : T27} (h : cnt n ≤ 100000) : F48 n = some (bk n) := by
  unfold F48 F53
  rw [sm]
  show G48 (.p1 n false) = _
  unfold G48 F81 F82
  have := g48 n 100000 n h (Nat.le_refl _)
  have this' : G82 (B48_1 n) (.e n (false, 0)) = _ := this
  simp only [this']
  cases bk n <;> rfl
end Go.Proofs.YtcidnoghoifmmaaDoor
end
section
/-
  Twins with fuel of printed functions: closed runs are run by the kernel.
-/

namespace Go.Proofs.YtcidnoghoifmmaaDoor
open Go AW
set_option linter.unusedVariables false
set_option linter.unusedSimpArgs false
set_option maxRecDepth 100000
set_option maxHeartbeats 4000000
def Le {α : Type} (x y : Option α) : Prop := ∀ r, x = some r → y = some r
theorem le_refl {α : Type} (x : Option α) : Le x x := fun _ h => h
theorem le_none {α : Type} (x : Option α) : Le none x := fun _ h => by cases h
theorem le_bind {α β : Type} {x y : Option α} {f g : α → Option β} (h : Le x y) (h' : ∀ v, Le (f v) (g v)) : Le (x >>= f) (y >>= g) := fun r e => by
  obtain ⟨v, e1, e2⟩ := bind_some e
  rw [h v e1]; exact h' v r e2
theorem le_ite {α : Type} {c : Prop} [Decidable c] {x y x' y' : Option α} (h : Le x x') (h' : Le y y') : Le (if c then x else y) (if c then x' else y') := fun r e => by
  by_cases k : c
  · rw [if_pos k] at e ⊢; exact h r e
  · rw [if_neg k] at e ⊢; exact h' r e
noncomputable def HG69 (fu : Nat)  : St69 → Option Bool := fun st => match st with
 | .p1 n kids want =>
  (if (kids == want) = true then
   (if (n.Kind == 2) = true then
    (if (n.Kind == 5) = true then
     (if (n.Kind == 6) = true then
      (some true)
     else
      (if (n.Kind == 7) = true then
       (some true)
      else
       (some (n.Group == 0))))
    else
     (if (n.Min == 0) = true then
      (if (n.Max == 0) = true then
       (if (n.Kind == 6) = true then
        (some true)
       else
        (if (n.Kind == 7) = true then
         (some true)
        else
         (some (n.Group == 0))))
      else
       (some false))
     else
      (some false)))
   else
    (if (decide (n.Set = (Arr.rep 4 (0 : Int)))) = true then
     (if (n.Kind == 5) = true then
      (if (n.Kind == 6) = true then
       (some true)
      else
       (if (n.Kind == 7) = true then
        (some true)
       else
        (some (n.Group == 0))))
     else
      (if (n.Min == 0) = true then
       (if (n.Max == 0) = true then
        (if (n.Kind == 6) = true then
         (some true)
        else
         (if (n.Kind == 7) = true then
          (some true)
         else
          (some (n.Group == 0))))
       else
        (some false))
      else
       (some false)))
    else
     (some false)))
  else
   (some false))
theorem leG69 (fu : Nat) (st : St69) : Le (HG69 fu st) (G69 st) := by
  unfold HG69 G69
  cases st <;> dsimp only <;> (repeat' (with_reducible first | exact le_refl _ | apply le_ite | refine le_bind ?_ (fun _ => ?_)))
noncomputable def HF69 (fu : Nat) (n : T27) : Option Bool :=
 (if (n.Kind == 3) = true then
  (HG69 fu (.p1 n ((ls n.Kids).length : Int) (if 2 > ((ls n.Kids).length : Int) then 2 else ((ls n.Kids).length : Int))))
 else
  (if (n.Kind == 4) = true then
   (HG69 fu (.p1 n ((ls n.Kids).length : Int) (if 2 > ((ls n.Kids).length : Int) then 2 else ((ls n.Kids).length : Int))))
  else
   (if (n.Kind == 5) = true then
    (if (decide (n.Min < 0)) = true then
     (some false)
    else
     (if (decide (n.Min > 255)) = true then
      (some false)
     else
      (if (n.Max != (-1)) = true then
       (if (decide (n.Max < n.Min)) = true then
        (some false)
       else
        (if (decide (n.Max > 255)) = true then
         (some false)
        else
         (HG69 fu (.p1 n ((ls n.Kids).length : Int) 1))))
      else
       (HG69 fu (.p1 n ((ls n.Kids).length : Int) 1)))))
   else
    (if (n.Kind == 6) = true then
     (HG69 fu (.p1 n ((ls n.Kids).length : Int) 1))
    else
     (if (n.Kind == 1) = true then
      (HG69 fu (.p1 n ((ls n.Kids).length : Int) 0))
     else
      (if (n.Kind == 2) = true then
       (HG69 fu (.p1 n ((ls n.Kids).length : Int) 0))
      else
       (if (n.Kind == 7) = true then
        (HG69 fu (.p1 n ((ls n.Kids).length : Int) 0))
       else
        (if (n.Kind == 8) = true then
         (HG69 fu (.p1 n ((ls n.Kids).length : Int) 0))
        else
         (if (n.Kind == 9) = true then
          (HG69 fu (.p1 n ((ls n.Kids).length : Int) 0))
         else
          (some false))))))))))
theorem leF69 (fu : Nat) (n : T27) : Le (HF69 fu n) (F69 n) := by
  unfold HF69 F69
  repeat' (with_reducible first | exact leG69 fu _ | exact le_refl _ | apply le_ite | refine le_bind ?_ (fun _ => ?_))
noncomputable def SG71 (fu : Nat)  (ih : St71 → Option (Int × Int)) : St71 → Option (Int × Int) := fun st => match st with
 | .e n =>
  (if (n.Kind == 6) = true then
   (ih (.p1 n n.Group n.Group))
  else
   (ih (.p1 n 0 0)))
 | .p1 n low high =>
  (ih (.p2 low high n.Kids ((ls n.Kids).length : Int) 0))
 | .p2 low high t18_ t19_ t20_ =>
  (if (decide (t20_ < t19_)) = true then
   (ix (ls t18_) t20_ >>= fun v_3 =>
    (ih (.e v_3) >>= fun r_6 =>
     (if (decide (r_6.1 > 0)) = true then
      (if (low == 0) = true then
       (ih (.p3 r_6.1 high r_6.2 t18_ t19_ t20_))
      else
       (if (decide (r_6.1 < low)) = true then
        (ih (.p3 r_6.1 high r_6.2 t18_ t19_ t20_))
       else
        (ih (.p3 low high r_6.2 t18_ t19_ t20_))))
     else
      (ih (.p3 low high r_6.2 t18_ t19_ t20_)))))
  else
   (some (low, high)))
 | .p3 low high b t18_ t19_ t20_ =>
  (ih (.p2 low (if b > high then b else high) t18_ t19_ (IntKind.wrap .i64 (t20_ + 1))))
noncomputable def HG71 (fu : Nat)  : St71 → Option (Int × Int) :=
 Nat.rec (motive := fun _ => St71 → Option (Int × Int)) (fun _ => none) (fun fu ih => SG71 fu ih) fu
theorem HG71_s (fu : Nat)  (st : St71) : HG71 (fu + 1) st = SG71 fu (HG71 fu) st := rfl
theorem leG71 (fu : Nat) (st : St71) : Le (HG71 fu st) (G71 st) := by
  induction fu generalizing st with
  | zero => exact le_none _
  | succ fu ih =>
    cases st
    · rw [HG71_s, G71.eq_1]
      unfold SG71
      dsimp only
      generalize HG71 fu = hh at ih ⊢
      repeat' (with_reducible first | exact ih _ | exact le_refl _ | apply le_ite | refine le_bind ?_ (fun _ => ?_))
    · rw [HG71_s, G71.eq_2]
      unfold SG71
      dsimp only
      generalize HG71 fu = hh at ih ⊢
      repeat' (with_reducible first | exact ih _ | exact le_refl _ | apply le_ite | refine le_bind ?_ (fun _ => ?_))
    · rw [HG71_s, G71.eq_3]
      unfold SG71
      dsimp only
      generalize HG71 fu = hh at ih ⊢
      repeat' (with_reducible first | exact ih _ | exact le_refl _ | apply le_ite | refine le_bind ?_ (fun _ => ?_))
    · rw [HG71_s, G71.eq_4]
      unfold SG71
      dsimp only
      generalize HG71 fu = hh at ih ⊢
      repeat' (with_reducible first | exact ih _ | exact le_refl _ | apply le_ite | refine le_bind ?_ (fun _ => ?_))
noncomputable def HF71 (fu : Nat) (n : T27) : Option (Int × Int) := HG71 fu (.e n)
theorem leF71 (fu : Nat) (n : T27) : Le (HF71 fu n) (F71 n) := by
  unfold HF71 F71
  repeat' (with_reducible first | exact leG71 fu _ | exact le_refl _ | apply le_ite | refine le_bind ?_ (fun _ => ?_))
noncomputable def HF53 (fu : Nat) (n : T27) : Option T27 :=
 (some n)
theorem leF53 (fu : Nat) (n : T27) : Le (HF53 fu n) (F53 n) := by
  unfold HF53 F53
  repeat' (with_reducible first | exact le_refl _ | apply le_ite | refine le_bind ?_ (fun _ => ?_))
noncomputable def SG82 (fu : Nat) {σ : Type} (Y : T27 → σ → Option (Bool × σ)) (ih : St82 σ → Option (Bool × σ)) : St82 σ → Option (Bool × σ) := fun st => match st with
 | .e n s_ =>
  (Y n s_ >>= fun r_1 =>
   (if (!r_1.1) = true then
    (some (false, r_1.2))
   else
    (ih (.p1 n ((ls n.Kids).length : Int) 0 r_1.2))))
 | .p1 n t14_ t15_ s_ =>
  (if (decide (t15_ < t14_)) = true then
   (ix (ls n.Kids) t15_ >>= fun v_5 =>
    (ih (.e v_5 s_) >>= fun r_7 =>
     (if (!r_7.1) = true then
      (some (false, r_7.2))
     else
      (ih (.p1 n t14_ (IntKind.wrap .i64 (t15_ + 1)) r_7.2)))))
  else
   (some (true, s_)))
noncomputable def HG82 (fu : Nat) {σ : Type} (Y : T27 → σ → Option (Bool × σ)) : St82 σ → Option (Bool × σ) :=
 Nat.rec (motive := fun _ => St82 σ → Option (Bool × σ)) (fun _ => none) (fun fu ih => SG82 fu Y ih) fu
theorem HG82_s (fu : Nat) {σ : Type} (Y : T27 → σ → Option (Bool × σ)) (st : St82 σ) : HG82 (fu + 1) Y st = SG82 fu Y (HG82 fu Y) st := rfl
theorem leG82 (fu : Nat) {σ : Type} (Y Y2 : T27 → σ → Option (Bool × σ)) (hY : ∀ a b, Le (Y a b) (Y2 a b)) (st : St82 σ) : Le (HG82 fu Y st) (G82 Y2 st) := by
  induction fu generalizing st with
  | zero => exact le_none _
  | succ fu ih =>
    cases st
    · rw [HG82_s, G82.eq_1]
      unfold SG82
      dsimp only
      generalize HG82 fu Y = hh at ih ⊢
      repeat' (with_reducible first | exact ih _ | exact hY _ _ | exact le_refl _ | apply le_ite | refine le_bind ?_ (fun _ => ?_))
    · rw [HG82_s, G82.eq_2]
      unfold SG82
      dsimp only
      generalize HG82 fu Y = hh at ih ⊢
      repeat' (with_reducible first | exact ih _ | exact hY _ _ | exact le_refl _ | apply le_ite | refine le_bind ?_ (fun _ => ?_))
noncomputable def HF82 (fu : Nat) {σ : Type} (Y : T27 → σ → Option (Bool × σ)) (n : T27) (s_ : σ) : Option (Bool × σ) := HG82 fu Y (.e n s_)
theorem leF82 (fu : Nat) {σ : Type} (Y Y2 : T27 → σ → Option (Bool × σ)) (n : T27) (s_ : σ) (hY : ∀ a b, Le (Y a b) (Y2 a b)) : Le (HF82 fu Y n s_) (F82 Y2 n s_) := by
  unfold HF82 F82
  repeat' (with_reducible first | exact hY _ _ | exact leG82 fu _ _ (fun _ _ => by first | exact hY _ _ ) _ | exact le_refl _ | apply le_ite | refine le_bind ?_ (fun _ => ?_))
noncomputable def HF81 (fu : Nat) {σ : Type} (Y : T27 → σ → Option (Bool × σ)) (d0_ : T27) (s_ : σ) : Option σ :=
 (HF82 fu Y d0_ s_ >>= fun r_2 =>
  (some r_2.2))
theorem leF81 (fu : Nat) {σ : Type} (Y Y2 : T27 → σ → Option (Bool × σ)) (d0_ : T27) (s_ : σ) (hY : ∀ a b, Le (Y a b) (Y2 a b)) : Le (HF81 fu Y d0_ s_) (F81 Y2 d0_ s_) := by
  unfold HF81 F81
  repeat' (with_reducible first | exact hY _ _ | exact leF82 fu _ _ _ _ (fun _ _ => by first | exact hY _ _ ) | exact le_refl _ | apply le_ite | refine le_bind ?_ (fun _ => ?_))
noncomputable def HB36_1 (fu : Nat) (t2_ : Int) (t5_ : T27) (x : T27) (zz : Int × Nat) : Option (Bool × (Int × Nat)) := if zz.2 = 0 then
 (if (x.Kind == 6) = true then
  (some (true, (IntKind.wrap .i64 (zz.1 + 1), 0)))
 else
  (some (true, (zz.1, 0))))
else none
theorem leB36_1 (fu : Nat) (t2_ : Int) (t5_ : T27) (x : T27) (zz : Int × Nat) : Le (HB36_1 fu t2_ t5_ x zz) (B36_1 t2_ t5_ x zz) := by
  unfold HB36_1 B36_1
  repeat' (with_reducible first | exact le_refl _ | apply le_ite | refine le_bind ?_ (fun _ => ?_))
noncomputable def HG36 (fu : Nat)  : St36 → Option Int := fun st => match st with
 | .p1 t2_ t5_ k =>
  (HF81 fu (HB36_1 fu t2_ t5_) t5_ (k, 0) >>= fun r_4 =>
   (if r_4.2 = 0 then
    (some r_4.1)
   else
    none))
theorem leG36 (fu : Nat) (st : St36) : Le (HG36 fu st) (G36 st) := by
  unfold HG36 G36
  cases st <;> dsimp only <;> (repeat' (with_reducible first | exact leF81 fu _ _ _ _ (fun _ _ => by first | exact leB36_1 fu _ _ _ _) | exact leB36_1 fu _ _ _ _ | exact le_refl _ | apply le_ite | refine le_bind ?_ (fun _ => ?_)))
noncomputable def HF36 (fu : Nat) (n : T27) : Option Int :=
 (HF53 fu n >>= fun r_2 =>
  (HG36 fu (.p1 0 r_2 0)))
theorem leF36 (fu : Nat) (n : T27) : Le (HF36 fu n) (F36 n) := by
  unfold HF36 F36
  repeat' (with_reducible first | exact leF53 fu _ | exact leG36 fu _ | exact le_refl _ | apply le_ite | refine le_bind ?_ (fun _ => ?_))
noncomputable def HF70 (fu : Nat) (x_ : Int) (q0_ : Int) : Option Int :=
 (some (if 16385 < (IntKind.wrap .i64 (q0_ + x_)) then 16385 else (IntKind.wrap .i64 (q0_ + x_))))
theorem leF70 (fu : Nat) (x_ : Int) (q0_ : Int) : Le (HF70 fu x_ q0_) (F70 x_ q0_) := by
  unfold HF70 F70
  repeat' (with_reducible first | exact le_refl _ | apply le_ite | refine le_bind ?_ (fun _ => ?_))
noncomputable def SG51 (fu : Nat)  (ih : St51 → Option Int) : St51 → Option Int := fun st => match st with
 | .e n =>
  (if (n.Kind == 1) = true then
   (some 0)
  else
   (if (n.Kind == 3) = true then
    (ih (.p1 n 0))
   else
    (if (n.Kind == 4) = true then
     (ih (.p1 n 0))
    else
     (if (n.Kind == 6) = true then
      (ih (.p1 n 0))
     else
      (if (n.Kind == 5) = true then
       (ix (ls n.Kids) 0 >>= fun v_7 =>
        (ih (.e v_7) >>= fun r_9 =>
         (ix (ls n.Kids) 0 >>= fun v_11 =>
          (HF71 fu v_11 >>= fun r_13 =>
           (if (decide (r_13.1 > 0)) = true then
            (ih (.p2 n (if 16385 < (IntKind.wrap .i64 (r_9 + 1)) then 16385 else (IntKind.wrap .i64 (r_9 + 1))) 0))
           else
            (ih (.p2 n r_9 0)))))))
      else
       (HF70 fu 1 0 >>= fun r_16 =>
        (some r_16)))))))
 | .p1 n sum =>
  (ih (.p3 n n.Kids ((ls n.Kids).length : Int) 0 sum))
 | .p2 n round sum =>
  (HF70 fu (IntKind.wrap .i64 (n.Min * round)) sum >>= fun r_18 =>
   (if (n.Max == (-1)) = true then
    (HF70 fu (IntKind.wrap .i64 (round + 4)) r_18 >>= fun r_21 =>
     (some r_21))
   else
    (HF70 fu (IntKind.wrap .i64 ((IntKind.wrap .i64 (n.Max - n.Min)) * (IntKind.wrap .i64 (round + 3)))) r_18 >>= fun r_23 =>
     (some r_23))))
 | .p3 n t22_ t23_ t24_ sum =>
  (if (decide (t24_ < t23_)) = true then
   (ix (ls t22_) t24_ >>= fun v_26 =>
    (ih (.e v_26) >>= fun r_29 =>
     (HF70 fu r_29 sum >>= fun r_31 =>
      (ih (.p3 n t22_ t23_ (IntKind.wrap .i64 (t24_ + 1)) r_31)))))
  else
   (if (n.Kind == 4) = true then
    (HF70 fu (IntKind.wrap .i64 (2 * (IntKind.wrap .i64 (((ls n.Kids).length : Int) - 1)))) sum >>= fun r_34 =>
     (ih (.p4 n r_34)))
   else
    (ih (.p4 n sum))))
 | .p4 n sum =>
  (if (n.Kind == 6) = true then
   (HF70 fu 2 sum >>= fun r_37 =>
    (some r_37))
  else
   (some sum))
noncomputable def HG51 (fu : Nat)  : St51 → Option Int :=
 Nat.rec (motive := fun _ => St51 → Option Int) (fun _ => none) (fun fu ih => SG51 fu ih) fu
theorem HG51_s (fu : Nat)  (st : St51) : HG51 (fu + 1) st = SG51 fu (HG51 fu) st := rfl
theorem leG51 (fu : Nat) (st : St51) : Le (HG51 fu st) (G51 st) := by
  induction fu generalizing st with
  | zero => exact le_none _
  | succ fu ih =>
    cases st
    · rw [HG51_s, G51.eq_1]
      unfold SG51
      dsimp only
      generalize HG51 fu = hh at ih ⊢
      repeat' (with_reducible first | exact ih _ | exact leF71 fu _ | exact leF70 fu _ _ | exact le_refl _ | apply le_ite | refine le_bind ?_ (fun _ => ?_))
    · rw [HG51_s, G51.eq_2]
      unfold SG51
      dsimp only
      generalize HG51 fu = hh at ih ⊢
      repeat' (with_reducible first | exact ih _ | exact leF71 fu _ | exact leF70 fu _ _ | exact le_refl _ | apply le_ite | refine le_bind ?_ (fun _ => ?_))
    · rw [HG51_s, G51.eq_3]
      unfold SG51
      dsimp only
      generalize HG51 fu = hh at ih ⊢
      repeat' (with_reducible first | exact ih _ | exact leF71 fu _ | exact leF70 fu _ _ | exact le_refl _ | apply le_ite | refine le_bind ?_ (fun _ => ?_))
    · rw [HG51_s, G51.eq_4]
      unfold SG51
      dsimp only
      generalize HG51 fu = hh at ih ⊢
      repeat' (with_reducible first | exact ih _ | exact leF71 fu _ | exact leF70 fu _ _ | exact le_refl _ | apply le_ite | refine le_bind ?_ (fun _ => ?_))
    · rw [HG51_s, G51.eq_5]
      unfold SG51
      dsimp only
      generalize HG51 fu = hh at ih ⊢
      repeat' (with_reducible first | exact ih _ | exact leF71 fu _ | exact leF70 fu _ _ | exact le_refl _ | apply le_ite | refine le_bind ?_ (fun _ => ?_))
noncomputable def HF51 (fu : Nat) (n : T27) : Option Int := HG51 fu (.e n)
theorem leF51 (fu : Nat) (n : T27) : Le (HF51 fu n) (F51 n) := by
  unfold HF51 F51
  repeat' (with_reducible first | exact leG51 fu _ | exact le_refl _ | apply le_ite | refine le_bind ?_ (fun _ => ?_))
noncomputable def SG68 (fu : Nat)  (ih : St68 → Option (Bool × Int × Sl Bool)) : St68 → Option (Bool × Int × Sl Bool) := fun st => match st with
 | .e n q0_ q1_ q2_ =>
  (if q0_ = true then
   (HF69 fu n >>= fun r_2 =>
    (ih (.p1 n r_2 q1_ q2_)))
  else
   (ih (.p1 n false q1_ q2_)))
 | .p1 n q0_ q1_ q2_ =>
  (if (!q0_) = true then
   (some (q0_, q1_, q2_))
  else
   (if (n.Kind == 6) = true then
    (if (n.Group == (IntKind.wrap .i64 (q1_ + 1))) = true then
     (ih (.p2 n (decide ((IntKind.wrap .i64 (q1_ + 1)) ≤ 99)) (IntKind.wrap .i64 (q1_ + 1)) q2_))
    else
     (ih (.p2 n false (IntKind.wrap .i64 (q1_ + 1)) q2_)))
   else
    (if (n.Kind == 7) = true then
     (if (decide (n.Group ≥ 1)) = true then
      (if (decide (n.Group ≤ 9)) = true then
       (if (decide (n.Group ≤ q1_)) = true then
        (ix (ls q2_) (IntKind.wrap .i64 (n.Group - 1)) >>= fun v_12 =>
         (ih (.p3 n v_12 q1_ q2_)))
       else
        (ih (.p3 n false q1_ q2_)))
      else
       (ih (.p3 n false q1_ q2_)))
     else
      (ih (.p3 n false q1_ q2_)))
    else
     (ih (.p3 n q0_ q1_ q2_)))))
 | .p2 n q0_ q1_ q2_ =>
  (if ((ls q2_).length + (ls (some ([false] : List Bool))).length) * 1 ≤ 140737488355328 then
   (ih (.p3 n q0_ q1_ (sapp q2_ (ls (some ([false] : List Bool))))))
  else none)
 | .p3 n q0_ q1_ q2_ =>
  (ih (.p4 n ((ls n.Kids).length : Int) 0 q0_ q1_ q2_))
 | .p4 n t71_ t72_ q0_ q1_ q2_ =>
  (if (decide (t72_ < t71_)) = true then
   (if q0_ = true then
    (ix (ls n.Kids) t72_ >>= fun v_20 =>
     (ih (.e v_20 q0_ q1_ q2_) >>= fun r_22 =>
      (ih (.p4 n t71_ (IntKind.wrap .i64 (t72_ + 1)) r_22.1 r_22.2.1 r_22.2.2))))
   else
    (ih (.p4 n t71_ (IntKind.wrap .i64 (t72_ + 1)) q0_ q1_ q2_)))
  else
   (if q0_ = true then
    (if (n.Kind == 6) = true then
     (ix (ls q2_) (IntKind.wrap .i64 (n.Group - 1)) >>= fun v_27 =>
      (some (q0_, q1_, (vset q2_ (IntKind.wrap .i64 (n.Group - 1)) true))))
    else
     (some (q0_, q1_, q2_)))
   else
    (some (q0_, q1_, q2_))))
noncomputable def HG68 (fu : Nat)  : St68 → Option (Bool × Int × Sl Bool) :=
 Nat.rec (motive := fun _ => St68 → Option (Bool × Int × Sl Bool)) (fun _ => none) (fun fu ih => SG68 fu ih) fu
theorem HG68_s (fu : Nat)  (st : St68) : HG68 (fu + 1) st = SG68 fu (HG68 fu) st := rfl
theorem leG68 (fu : Nat) (st : St68) : Le (HG68 fu st) (G68 st) := by
  induction fu generalizing st with
  | zero => exact le_none _
  | succ fu ih =>
    cases st
    · rw [HG68_s, G68.eq_1]
      unfold SG68
      dsimp only
      generalize HG68 fu = hh at ih ⊢
      repeat' (with_reducible first | exact ih _ | exact leF69 fu _ | exact le_refl _ | apply le_ite | refine le_bind ?_ (fun _ => ?_))
    · rw [HG68_s, G68.eq_2]
      unfold SG68
      dsimp only
      generalize HG68 fu = hh at ih ⊢
      repeat' (with_reducible first | exact ih _ | exact leF69 fu _ | exact le_refl _ | apply le_ite | refine le_bind ?_ (fun _ => ?_))
    · rw [HG68_s, G68.eq_3]
      unfold SG68
      dsimp only
      generalize HG68 fu = hh at ih ⊢
      repeat' (with_reducible first | exact ih _ | exact leF69 fu _ | exact le_refl _ | apply le_ite | refine le_bind ?_ (fun _ => ?_))
    · rw [HG68_s, G68.eq_4]
      unfold SG68
      dsimp only
      generalize HG68 fu = hh at ih ⊢
      repeat' (with_reducible first | exact ih _ | exact leF69 fu _ | exact le_refl _ | apply le_ite | refine le_bind ?_ (fun _ => ?_))
    · rw [HG68_s, G68.eq_5]
      unfold SG68
      dsimp only
      generalize HG68 fu = hh at ih ⊢
      repeat' (with_reducible first | exact ih _ | exact leF69 fu _ | exact le_refl _ | apply le_ite | refine le_bind ?_ (fun _ => ?_))
noncomputable def HF68 (fu : Nat) (n : T27) (q0_ : Bool) (q1_ : Int) (q2_ : Sl Bool) : Option (Bool × Int × Sl Bool) := HG68 fu (.e n q0_ q1_ q2_)
theorem leF68 (fu : Nat) (n : T27) (q0_ : Bool) (q1_ : Int) (q2_ : Sl Bool) : Le (HF68 fu n q0_ q1_ q2_) (F68 n q0_ q1_ q2_) := by
  unfold HF68 F68
  repeat' (with_reducible first | exact leG68 fu _ | exact le_refl _ | apply le_ite | refine le_bind ?_ (fun _ => ?_))
noncomputable def HB50_1 (fu : Nat) (n : T27) (t8_ : T27) (x : T27) (zz : Int × Int × Nat) : Option (Bool × (Int × Int × Nat)) := if zz.2.2 = 0 then
 (if (decide ((IntKind.wrap .i64 (zz.2.1 + 1)) > 8192)) = true then
  (some (false, (3, IntKind.wrap .i64 (zz.2.1 + 1), 1)))
 else
  (some (true, (zz.1, IntKind.wrap .i64 (zz.2.1 + 1), 0))))
else none
theorem leB50_1 (fu : Nat) (n : T27) (t8_ : T27) (x : T27) (zz : Int × Int × Nat) : Le (HB50_1 fu n t8_ x zz) (B50_1 n t8_ x zz) := by
  unfold HB50_1 B50_1
  repeat' (with_reducible first | exact le_refl _ | apply le_ite | refine le_bind ?_ (fun _ => ?_))
noncomputable def HG50 (fu : Nat)  : St50 → Option Int := fun st => match st with
 | .p1 n t8_ t2_ count =>
  (HF81 fu (HB50_1 fu n t8_) t8_ (t2_, count, 0) >>= fun r_5 =>
   (if r_5.2.2 = 0 then
    (HF68 fu n true 0 (none : Sl Bool) >>= fun r_12 =>
     (if (!r_12.1) = true then
      (some 90)
     else
      (some 0)))
   else
    (if r_5.2.2 = 1 then
     (some r_5.1)
    else
     none)))
theorem leG50 (fu : Nat) (st : St50) : Le (HG50 fu st) (G50 st) := by
  unfold HG50 G50
  cases st <;> dsimp only <;> (repeat' (with_reducible first | exact leF81 fu _ _ _ _ (fun _ _ => by first | exact leB50_1 fu _ _ _ _) | exact leB50_1 fu _ _ _ _ | exact leF68 fu _ _ _ _ | exact le_refl _ | apply le_ite | refine le_bind ?_ (fun _ => ?_)))
noncomputable def HF50 (fu : Nat) (n : T27) : Option Int :=
 (HF53 fu n >>= fun r_3 =>
  (HG50 fu (.p1 n r_3 0 0)))
theorem leF50 (fu : Nat) (n : T27) : Le (HF50 fu n) (F50 n) := by
  unfold HF50 F50
  repeat' (with_reducible first | exact leF53 fu _ | exact leG50 fu _ | exact le_refl _ | apply le_ite | refine le_bind ?_ (fun _ => ?_))
noncomputable def HF35 (fu : Nat) (c : T71) (x_ : T76) : Option (Int × T71) :=
 (if ((ls c.code).length + (ls (some ([x_] : List T76))).length) * 72 ≤ 140737488355328 then
  (some (IntKind.wrap .i64 (((ls (sapp c.code (ls (some ([x_] : List T76))))).length : Int) - 1), ({ c with code := sapp c.code (ls (some ([x_] : List T76))) } : T71)))
 else none)
theorem leF35 (fu : Nat) (c : T71) (x_ : T76) : Le (HF35 fu c x_) (F35 c x_) := by
  unfold HF35 F35
  repeat' (with_reducible first | exact le_refl _ | apply le_ite | refine le_bind ?_ (fun _ => ?_))
noncomputable def HF33 (fu : Nat) (n : T27) : Option (Int × Int) :=
 (HF50 fu n >>= fun r_1 =>
  (if (r_1 != 0) = true then
   (some (0, r_1))
  else
   (HF51 fu n >>= fun r_4 =>
    (if (decide (r_4 < 16384)) = true then
     (some (IntKind.wrap .i64 (r_4 + 1), 0))
    else
     (some (0, 3))))))
theorem leF33 (fu : Nat) (n : T27) : Le (HF33 fu n) (F33 n) := by
  unfold HF33 F33
  repeat' (with_reducible first | exact leF50 fu _ | exact leF51 fu _ | exact le_refl _ | apply le_ite | refine le_bind ?_ (fun _ => ?_))
noncomputable def HF52 (fu : Nat)  : Option Unit :=
 (some ())
theorem leF52 (fu : Nat)  : Le (HF52 fu ) (F52 ) := by
  unfold HF52 F52
  repeat' (with_reducible first | exact le_refl _ | apply le_ite | refine le_bind ?_ (fun _ => ?_))
noncomputable def HF72 (fu : Nat) (c : T71) (n : T27) : Option T71 :=
 (some c)
theorem leF72 (fu : Nat) (c : T71) (n : T27) : Le (HF72 fu c n) (F72 c n) := by
  unfold HF72 F72
  repeat' (with_reducible first | exact le_refl _ | apply le_ite | refine le_bind ?_ (fun _ => ?_))
noncomputable def HF73 (fu : Nat) (c : T71) (n : T27) : Option T71 :=
 (HF35 fu c ({ Kind := 1, Set := n.Set, To := 0, Group := 0, Last := 0, Slot := 0 } : T76) >>= fun r_1 =>
  (some r_1.2))
theorem leF73 (fu : Nat) (c : T71) (n : T27) : Le (HF73 fu c n) (F73 c n) := by
  unfold HF73 F73
  repeat' (with_reducible first | exact leF35 fu _ _ | exact le_refl _ | apply le_ite | refine le_bind ?_ (fun _ => ?_))
noncomputable def HF74 (fu : Nat) (c : T71) (n : T27) : Option T71 :=
 (HF35 fu c ({ Kind := 10, Set := (Arr.rep 4 (0 : Int)), To := 0, Group := 0, Last := 0, Slot := 0 } : T76) >>= fun r_1 =>
  (some r_1.2))
theorem leF74 (fu : Nat) (c : T71) (n : T27) : Le (HF74 fu c n) (F74 c n) := by
  unfold HF74 F74
  repeat' (with_reducible first | exact leF35 fu _ _ | exact le_refl _ | apply le_ite | refine le_bind ?_ (fun _ => ?_))
noncomputable def HF75 (fu : Nat) (c : T71) (n : T27) : Option T71 :=
 (HF35 fu c ({ Kind := 11, Set := (Arr.rep 4 (0 : Int)), To := 0, Group := 0, Last := 0, Slot := 0 } : T76) >>= fun r_1 =>
  (some r_1.2))
theorem leF75 (fu : Nat) (c : T71) (n : T27) : Le (HF75 fu c n) (F75 c n) := by
  unfold HF75 F75
  repeat' (with_reducible first | exact leF35 fu _ _ | exact le_refl _ | apply le_ite | refine le_bind ?_ (fun _ => ?_))
noncomputable def HF76 (fu : Nat) (c : T71) (n : T27) : Option T71 :=
 (HF35 fu c ({ Kind := 9, Set := (Arr.rep 4 (0 : Int)), To := 0, Group := n.Group, Last := 0, Slot := 0 } : T76) >>= fun r_1 =>
  (some r_1.2))
theorem leF76 (fu : Nat) (c : T71) (n : T27) : Le (HF76 fu c n) (F76 c n) := by
  unfold HF76 F76
  repeat' (with_reducible first | exact leF35 fu _ _ | exact le_refl _ | apply le_ite | refine le_bind ?_ (fun _ => ?_))
noncomputable def SG34r (fu : Nat)  (ih : St34r → Option T71) : St34r → Option T71 := fun st => match st with
 | .e34 c n =>
  (HF52 fu >>= fun r_1 =>
   (if n.Kind = 1 then
    (HF72 fu c n >>= fun r_28 =>
     (some r_28))
   else
    (if n.Kind = 2 then
     (HF73 fu c n >>= fun r_25 =>
      (some r_25))
    else
     (if n.Kind = 3 then
      (ih (.e77 c n) >>= fun r_22 =>
       (some r_22))
     else
      (if n.Kind = 4 then
       (ih (.e79 c n) >>= fun r_19 =>
        (some r_19))
      else
       (if n.Kind = 5 then
        (ih (.e80 c n) >>= fun r_16 =>
         (some r_16))
       else
        (if n.Kind = 6 then
         (ih (.e78 c n) >>= fun r_13 =>
          (some r_13))
        else
         (if n.Kind = 7 then
          (HF76 fu c n >>= fun r_10 =>
           (some r_10))
         else
          (if n.Kind = 8 then
           (HF74 fu c n >>= fun r_7 =>
            (some r_7))
          else
           (if n.Kind = 9 then
            (HF75 fu c n >>= fun r_4 =>
             (some r_4))
           else
            none))))))))))
 | .e77 c n =>
  (ih (.p77_1 n.Kids ((ls n.Kids).length : Int) 0 c))
 | .p77_1 t7_ t8_ t9_ c =>
  (if (decide (t9_ < t8_)) = true then
   (ix (ls t7_) t9_ >>= fun v_2 =>
    (ih (.e34 c v_2) >>= fun r_5 =>
     (ih (.p77_1 t7_ t8_ (IntKind.wrap .i64 (t9_ + 1)) r_5))))
  else
   (some c))
 | .e78 c n =>
  (HF35 fu c ({ Kind := 4, Set := (Arr.rep 4 (0 : Int)), To := 0, Group := n.Group, Last := 0, Slot := 0 } : T76) >>= fun r_1 =>
   (ix (ls n.Kids) 0 >>= fun v_3 =>
    (ih (.e34 r_1.2 v_3) >>= fun r_5 =>
     (HF35 fu r_5 ({ Kind := 5, Set := (Arr.rep 4 (0 : Int)), To := 0, Group := n.Group, Last := 0, Slot := 0 } : T76) >>= fun r_7 =>
      (some r_7.2)))))
 | .e79 c n =>
  (scut n.Kids 0 (IntKind.wrap .i64 (((ls n.Kids).length : Int) - 1)) >>= fun w_1 =>
   (ih (.p79_1 n (IntKind.wrap .i64 (((ls n.Kids).length : Int) - 1)) w_1 ((ls w_1).length : Int) 0 c none)))
 | .p79_1 n last t18_ t19_ t20_ c out =>
  (if (decide (t20_ < t19_)) = true then
   (ix (ls t18_) t20_ >>= fun v_5 =>
    (HF35 fu c ({ Kind := 2, Set := (Arr.rep 4 (0 : Int)), To := 0, Group := 0, Last := 0, Slot := 0 } : T76) >>= fun r_8 =>
     (ih (.e34 r_8.2 v_5) >>= fun r_10 =>
      (HF35 fu r_10 ({ Kind := 3, Set := (Arr.rep 4 (0 : Int)), To := 0, Group := 0, Last := 0, Slot := 0 } : T76) >>= fun r_12 =>
       (if ((ls out).length + (ls (some ([r_12.1] : List Int))).length) * 8 ≤ 140737488355328 then
        (ix (ls r_12.2.code) r_8.1 >>= fun v_18 =>
         (ih (.p79_1 n last t18_ t19_ (IntKind.wrap .i64 (t20_ + 1)) ({ r_12.2 with code := (vset r_12.2.code r_8.1 ({ v_18 with To := ((ls r_12.2.code).length : Int) } : T76)) } : T71) (sapp out (ls (some ([r_12.1] : List Int)))))))
       else none)))))
  else
   (ix (ls n.Kids) last >>= fun v_20 =>
    (ih (.e34 c v_20) >>= fun r_22 =>
     (ih (.p79_2 out ((ls out).length : Int) 0 r_22)))))
 | .p79_2 t56_ t57_ t58_ c =>
  (if (decide (t58_ < t57_)) = true then
   (ix (ls t56_) t58_ >>= fun v_25 =>
    (ix (ls c.code) v_25 >>= fun v_28 =>
     (ih (.p79_2 t56_ t57_ (IntKind.wrap .i64 (t58_ + 1)) ({ c with code := (vset c.code v_25 ({ v_28 with To := ((ls c.code).length : Int) } : T76)) } : T71)))))
  else
   (some c))
 | .e80 c n =>
  (ih (.p80_1 n n.Min 0 c))
 | .p80_1 n t10_ t11_ c =>
  (if (decide (t11_ < t10_)) = true then
   (ix (ls n.Kids) 0 >>= fun v_3 =>
    (ih (.e93 c v_3 false) >>= fun r_5 =>
     (if (((ls r_5.code).length : Int) == ((ls c.code).length : Int)) = true then
      (ih (.p80_2 n r_5))
     else
      (ih (.p80_1 n t10_ (IntKind.wrap .i64 (t11_ + 1)) r_5)))))
  else
   (ih (.p80_2 n c)))
 | .p80_2 n c =>
  (if (n.Max == (-1)) = true then
   (HF35 fu c ({ Kind := 2, Set := (Arr.rep 4 (0 : Int)), To := 0, Group := 0, Last := 0, Slot := 0 } : T76) >>= fun r_10 =>
    (ix (ls n.Kids) 0 >>= fun v_12 =>
     (ih (.e93 r_10.2 v_12 true) >>= fun r_14 =>
      (HF35 fu r_14 ({ Kind := 3, Set := (Arr.rep 4 (0 : Int)), To := r_10.1, Group := 0, Last := 0, Slot := 0 } : T76) >>= fun r_16 =>
       (ix (ls r_16.2.code) r_10.1 >>= fun v_19 =>
        (some ({ r_16.2 with code := (vset r_16.2.code r_10.1 ({ v_19 with To := ((ls r_16.2.code).length : Int) } : T76)) } : T71)))))))
  else
   (ih (.p80_3 n (IntKind.wrap .i64 (n.Max - n.Min)) 0 c none)))
 | .p80_3 n t64_ t65_ c out =>
  (if (decide (t65_ < t64_)) = true then
   (HF35 fu c ({ Kind := 2, Set := (Arr.rep 4 (0 : Int)), To := 0, Group := 0, Last := 0, Slot := 0 } : T76) >>= fun r_23 =>
    (if ((ls out).length + (ls (some ([r_23.1] : List Int))).length) * 8 ≤ 140737488355328 then
     (ix (ls n.Kids) 0 >>= fun v_28 =>
      (ih (.e93 r_23.2 v_28 true) >>= fun r_30 =>
       (ih (.p80_3 n t64_ (IntKind.wrap .i64 (t65_ + 1)) r_30 (sapp out (ls (some ([r_23.1] : List Int))))))))
    else none))
  else
   (ih (.p80_4 out ((ls out).length : Int) 0 c)))
 | .p80_4 t80_ t81_ t82_ c =>
  (if (decide (t82_ < t81_)) = true then
   (ix (ls t80_) t82_ >>= fun v_33 =>
    (ix (ls c.code) v_33 >>= fun v_36 =>
     (ih (.p80_4 t80_ t81_ (IntKind.wrap .i64 (t82_ + 1)) ({ c with code := (vset c.code v_33 ({ v_36 with To := ((ls c.code).length : Int) } : T76)) } : T71)))))
  else
   (some c))
 | .e93 c n free =>
  (if free = true then
   (HF35 fu c ({ Kind := 7, Set := (Arr.rep 4 (0 : Int)), To := 0, Group := 0, Last := 0, Slot := c.free } : T76) >>= fun r_3 =>
    (ih (.p93_1 free n c.free ({ r_3.2 with free := IntKind.wrap .i64 (r_3.2.free + 1), slots := (if (IntKind.wrap .i64 (r_3.2.free + 1)) > r_3.2.slots then (IntKind.wrap .i64 (r_3.2.free + 1)) else r_3.2.slots) } : T71))))
  else
   (ih (.p93_1 free n c.free c)))
 | .p93_1 free n slot c =>
  (HF71 fu n >>= fun r_6 =>
   (if (decide (r_6.1 > 0)) = true then
    (HF35 fu c ({ Kind := 6, Set := (Arr.rep 4 (0 : Int)), To := 0, Group := r_6.1, Last := r_6.2, Slot := 0 } : T76) >>= fun r_9 =>
     (ih (.p93_2 free n slot r_9.2)))
   else
    (ih (.p93_2 free n slot c))))
 | .p93_2 free n slot c =>
  (ih (.e34 c n) >>= fun r_11 =>
   (if free = true then
    (HF35 fu ({ r_11 with free := IntKind.wrap .i64 (r_11.free - 1) } : T71) ({ Kind := 8, Set := (Arr.rep 4 (0 : Int)), To := 0, Group := 0, Last := 0, Slot := slot } : T76) >>= fun r_15 =>
     (some r_15.2))
   else
    (some r_11)))
noncomputable def HG34r (fu : Nat)  : St34r → Option T71 :=
 Nat.rec (motive := fun _ => St34r → Option T71) (fun _ => none) (fun fu ih => SG34r fu ih) fu
theorem HG34r_s (fu : Nat)  (st : St34r) : HG34r (fu + 1) st = SG34r fu (HG34r fu) st := rfl
theorem leG34r (fu : Nat) (st : St34r) : Le (HG34r fu st) (G34r st) := by
  induction fu generalizing st with
  | zero => exact le_none _
  | succ fu ih =>
    cases st
    · rw [HG34r_s, G34r.eq_1]
      unfold SG34r
      dsimp only
      generalize HG34r fu = hh at ih ⊢
      repeat' (with_reducible first | exact ih _ | exact leF52 fu | exact leF72 fu _ _ | exact leF73 fu _ _ | exact leF76 fu _ _ | exact leF74 fu _ _ | exact leF75 fu _ _ | exact leF35 fu _ _ | exact leF71 fu _ | exact le_refl _ | apply le_ite | refine le_bind ?_ (fun _ => ?_))
    · rw [HG34r_s, G34r.eq_2]
      unfold SG34r
      dsimp only
      generalize HG34r fu = hh at ih ⊢
      repeat' (with_reducible first | exact ih _ | exact leF52 fu | exact leF72 fu _ _ | exact leF73 fu _ _ | exact leF76 fu _ _ | exact leF74 fu _ _ | exact leF75 fu _ _ | exact leF35 fu _ _ | exact leF71 fu _ | exact le_refl _ | apply le_ite | refine le_bind ?_ (fun _ => ?_))
    · rw [HG34r_s, G34r.eq_3]
      unfold SG34r
      dsimp only
      generalize HG34r fu = hh at ih ⊢
      repeat' (with_reducible first | exact ih _ | exact leF52 fu | exact leF72 fu _ _ | exact leF73 fu _ _ | exact leF76 fu _ _ | exact leF74 fu _ _ | exact leF75 fu _ _ | exact leF35 fu _ _ | exact leF71 fu _ | exact le_refl _ | apply le_ite | refine le_bind ?_ (fun _ => ?_))
    · rw [HG34r_s, G34r.eq_4]
      unfold SG34r
      dsimp only
      generalize HG34r fu = hh at ih ⊢
      repeat' (with_reducible first | exact ih _ | exact leF52 fu | exact leF72 fu _ _ | exact leF73 fu _ _ | exact leF76 fu _ _ | exact leF74 fu _ _ | exact leF75 fu _ _ | exact leF35 fu _ _ | exact leF71 fu _ | exact le_refl _ | apply le_ite | refine le_bind ?_ (fun _ => ?_))
    · rw [HG34r_s, G34r.eq_5]
      unfold SG34r
      dsimp only
      generalize HG34r fu = hh at ih ⊢
      repeat' (with_reducible first | exact ih _ | exact leF52 fu | exact leF72 fu _ _ | exact leF73 fu _ _ | exact leF76 fu _ _ | exact leF74 fu _ _ | exact leF75 fu _ _ | exact leF35 fu _ _ | exact leF71 fu _ | exact le_refl _ | apply le_ite | refine le_bind ?_ (fun _ => ?_))
    · rw [HG34r_s, G34r.eq_6]
      unfold SG34r
      dsimp only
      generalize HG34r fu = hh at ih ⊢
      repeat' (with_reducible first | exact ih _ | exact leF52 fu | exact leF72 fu _ _ | exact leF73 fu _ _ | exact leF76 fu _ _ | exact leF74 fu _ _ | exact leF75 fu _ _ | exact leF35 fu _ _ | exact leF71 fu _ | exact le_refl _ | apply le_ite | refine le_bind ?_ (fun _ => ?_))
    · rw [HG34r_s, G34r.eq_7]
      unfold SG34r
      dsimp only
      generalize HG34r fu = hh at ih ⊢
      repeat' (with_reducible first | exact ih _ | exact leF52 fu | exact leF72 fu _ _ | exact leF73 fu _ _ | exact leF76 fu _ _ | exact leF74 fu _ _ | exact leF75 fu _ _ | exact leF35 fu _ _ | exact leF71 fu _ | exact le_refl _ | apply le_ite | refine le_bind ?_ (fun _ => ?_))
    · rw [HG34r_s, G34r.eq_8]
      unfold SG34r
      dsimp only
      generalize HG34r fu = hh at ih ⊢
      repeat' (with_reducible first | exact ih _ | exact leF52 fu | exact leF72 fu _ _ | exact leF73 fu _ _ | exact leF76 fu _ _ | exact leF74 fu _ _ | exact leF75 fu _ _ | exact leF35 fu _ _ | exact leF71 fu _ | exact le_refl _ | apply le_ite | refine le_bind ?_ (fun _ => ?_))
    · rw [HG34r_s, G34r.eq_9]
      unfold SG34r
      dsimp only
      generalize HG34r fu = hh at ih ⊢
      repeat' (with_reducible first | exact ih _ | exact leF52 fu | exact leF72 fu _ _ | exact leF73 fu _ _ | exact leF76 fu _ _ | exact leF74 fu _ _ | exact leF75 fu _ _ | exact leF35 fu _ _ | exact leF71 fu _ | exact le_refl _ | apply le_ite | refine le_bind ?_ (fun _ => ?_))
    · rw [HG34r_s, G34r.eq_10]
      unfold SG34r
      dsimp only
      generalize HG34r fu = hh at ih ⊢
      repeat' (with_reducible first | exact ih _ | exact leF52 fu | exact leF72 fu _ _ | exact leF73 fu _ _ | exact leF76 fu _ _ | exact leF74 fu _ _ | exact leF75 fu _ _ | exact leF35 fu _ _ | exact leF71 fu _ | exact le_refl _ | apply le_ite | refine le_bind ?_ (fun _ => ?_))
    · rw [HG34r_s, G34r.eq_11]
      unfold SG34r
      dsimp only
      generalize HG34r fu = hh at ih ⊢
      repeat' (with_reducible first | exact ih _ | exact leF52 fu | exact leF72 fu _ _ | exact leF73 fu _ _ | exact leF76 fu _ _ | exact leF74 fu _ _ | exact leF75 fu _ _ | exact leF35 fu _ _ | exact leF71 fu _ | exact le_refl _ | apply le_ite | refine le_bind ?_ (fun _ => ?_))
    · rw [HG34r_s, G34r.eq_12]
      unfold SG34r
      dsimp only
      generalize HG34r fu = hh at ih ⊢
      repeat' (with_reducible first | exact ih _ | exact leF52 fu | exact leF72 fu _ _ | exact leF73 fu _ _ | exact leF76 fu _ _ | exact leF74 fu _ _ | exact leF75 fu _ _ | exact leF35 fu _ _ | exact leF71 fu _ | exact le_refl _ | apply le_ite | refine le_bind ?_ (fun _ => ?_))
    · rw [HG34r_s, G34r.eq_13]
      unfold SG34r
      dsimp only
      generalize HG34r fu = hh at ih ⊢
      repeat' (with_reducible first | exact ih _ | exact leF52 fu | exact leF72 fu _ _ | exact leF73 fu _ _ | exact leF76 fu _ _ | exact leF74 fu _ _ | exact leF75 fu _ _ | exact leF35 fu _ _ | exact leF71 fu _ | exact le_refl _ | apply le_ite | refine le_bind ?_ (fun _ => ?_))
    · rw [HG34r_s, G34r.eq_14]
      unfold SG34r
      dsimp only
      generalize HG34r fu = hh at ih ⊢
      repeat' (with_reducible first | exact ih _ | exact leF52 fu | exact leF72 fu _ _ | exact leF73 fu _ _ | exact leF76 fu _ _ | exact leF74 fu _ _ | exact leF75 fu _ _ | exact leF35 fu _ _ | exact leF71 fu _ | exact le_refl _ | apply le_ite | refine le_bind ?_ (fun _ => ?_))
    · rw [HG34r_s, G34r.eq_15]
      unfold SG34r
      dsimp only
      generalize HG34r fu = hh at ih ⊢
      repeat' (with_reducible first | exact ih _ | exact leF52 fu | exact leF72 fu _ _ | exact leF73 fu _ _ | exact leF76 fu _ _ | exact leF74 fu _ _ | exact leF75 fu _ _ | exact leF35 fu _ _ | exact leF71 fu _ | exact le_refl _ | apply le_ite | refine le_bind ?_ (fun _ => ?_))
noncomputable def HF34 (fu : Nat) (c : T71) (n : T27) : Option T71 := HG34r fu (.e34 c n)
theorem leF34 (fu : Nat) (c : T71) (n : T27) : Le (HF34 fu c n) (F34 c n) := by
  unfold HF34 F34
  repeat' (with_reducible first | exact leG34r fu _ | exact le_refl _ | apply le_ite | refine le_bind ?_ (fun _ => ?_))
noncomputable def HF19 (fu : Nat) (n : T27) : Option (T45 × Int) :=
 (HF33 fu n >>= fun r_2 =>
  (if (r_2.2 != 0) = true then
   (some (({ Groups := 0, Slots := 0, Code := none } : T45), r_2.2))
  else
   (HF34 fu ({ code := (none : Sl T76), slots := 0, free := 0 } : T71) n >>= fun r_7 =>
    (HF35 fu r_7 ({ Kind := 12, Set := (Arr.rep 4 (0 : Int)), To := 0, Group := 0, Last := 0, Slot := 0 } : T76) >>= fun r_9 =>
     (HF36 fu n >>= fun r_12 =>
      (some (({ Groups := r_12, Slots := r_9.2.slots, Code := r_9.2.code } : T45), 0)))))))
theorem leF19 (fu : Nat) (n : T27) : Le (HF19 fu n) (F19 n) := by
  unfold HF19 F19
  repeat' (with_reducible first | exact leF33 fu _ | exact leF34 fu _ _ | exact leF35 fu _ _ | exact leF36 fu _ | exact le_refl _ | apply le_ite | refine le_bind ?_ (fun _ => ?_))
noncomputable def HF57 (fu : Nat) (s : Arr 4 Int) (c : Int) : Option Bool :=
 (if (0 : Int) ≤ (IntKind.wrap .u8 (Int.tdiv c 64)) ∧ (IntKind.wrap .u8 (Int.tdiv c 64)) < (4 : Int) then
  (ix s.l (IntKind.wrap .u8 (Int.tdiv c 64)) >>= fun v_2 =>
   (if 0 ≤ (Int.tmod c 64) then
    (some ((andI .u64 (shrI .u64 v_2 (Int.tmod c 64)) 1) == 1))
   else none))
 else none)
theorem leF57 (fu : Nat) (s : Arr 4 Int) (c : Int) : Le (HF57 fu s c) (F57 s c) := by
  unfold HF57 F57
  repeat' (with_reducible first | exact le_refl _ | apply le_ite | refine le_bind ?_ (fun _ => ?_))
noncomputable def HB48_1 (fu : Nat) (t4_ : T27) (x : T27) (zz : Bool × Nat) : Option (Bool × (Bool × Nat)) := if zz.2 = 0 then
 (if (x.Kind == 7) = true then
  (some (false, (true, 1)))
 else
  (some (true, (zz.1, 0))))
else none
theorem leB48_1 (fu : Nat) (t4_ : T27) (x : T27) (zz : Bool × Nat) : Le (HB48_1 fu t4_ x zz) (B48_1 t4_ x zz) := by
  unfold HB48_1 B48_1
  repeat' (with_reducible first | exact le_refl _ | apply le_ite | refine le_bind ?_ (fun _ => ?_))
noncomputable def HG48 (fu : Nat)  : St48 → Option Bool := fun st => match st with
 | .p1 t4_ t2_ =>
  (HF81 fu (HB48_1 fu t4_) t4_ (t2_, 0) >>= fun r_4 =>
   (if r_4.2 = 0 then
    (some false)
   else
    (if r_4.2 = 1 then
     (some r_4.1)
    else
     none)))
theorem leG48 (fu : Nat) (st : St48) : Le (HG48 fu st) (G48 st) := by
  unfold HG48 G48
  cases st <;> dsimp only <;> (repeat' (with_reducible first | exact leF81 fu _ _ _ _ (fun _ _ => by first | exact leB48_1 fu _ _ _) | exact leB48_1 fu _ _ _ | exact le_refl _ | apply le_ite | refine le_bind ?_ (fun _ => ?_)))
noncomputable def HF48 (fu : Nat) (n : T27) : Option Bool :=
 (HF53 fu n >>= fun r_2 =>
  (HG48 fu (.p1 r_2 false)))
theorem leF48 (fu : Nat) (n : T27) : Le (HF48 fu n) (F48 n) := by
  unfold HF48 F48
  repeat' (with_reducible first | exact leF53 fu _ | exact leG48 fu _ | exact le_refl _ | apply le_ite | refine le_bind ?_ (fun _ => ?_))
noncomputable def SG49 (fu : Nat)  (ih : St49 → Option Bool) : St49 → Option Bool := fun st => match st with
 | .e n =>
  (if (n.Kind == 8) = true then
   (some true)
  else
   (if (n.Kind == 9) = true then
    (some true)
   else
    (ih (.p1 n.Kids ((ls n.Kids).length : Int) 0))))
 | .p1 t14_ t15_ t16_ =>
  (if (decide (t16_ < t15_)) = true then
   (ix (ls t14_) t16_ >>= fun v_4 =>
    (ih (.e v_4) >>= fun r_7 =>
     (if r_7 = true then
      (some true)
     else
      (ih (.p1 t14_ t15_ (IntKind.wrap .i64 (t16_ + 1)))))))
  else
   (some false))
noncomputable def HG49 (fu : Nat)  : St49 → Option Bool :=
 Nat.rec (motive := fun _ => St49 → Option Bool) (fun _ => none) (fun fu ih => SG49 fu ih) fu
theorem HG49_s (fu : Nat)  (st : St49) : HG49 (fu + 1) st = SG49 fu (HG49 fu) st := rfl
theorem leG49 (fu : Nat) (st : St49) : Le (HG49 fu st) (G49 st) := by
  induction fu generalizing st with
  | zero => exact le_none _
  | succ fu ih =>
    cases st
    · rw [HG49_s, G49.eq_1]
      unfold SG49
      dsimp only
      generalize HG49 fu = hh at ih ⊢
      repeat' (with_reducible first | exact ih _ | exact le_refl _ | apply le_ite | refine le_bind ?_ (fun _ => ?_))
    · rw [HG49_s, G49.eq_2]
      unfold SG49
      dsimp only
      generalize HG49 fu = hh at ih ⊢
      repeat' (with_reducible first | exact ih _ | exact le_refl _ | apply le_ite | refine le_bind ?_ (fun _ => ?_))
noncomputable def HF49 (fu : Nat) (n : T27) : Option Bool := HG49 fu (.e n)
theorem leF49 (fu : Nat) (n : T27) : Le (HF49 fu n) (F49 n) := by
  unfold HF49 F49
  repeat' (with_reducible first | exact leG49 fu _ | exact le_refl _ | apply le_ite | refine le_bind ?_ (fun _ => ?_))
noncomputable def HF32 (fu : Nat) (n : T27) : Option (T45 × Int) :=
 (HF19 fu n >>= fun r_2 =>
  (if (r_2.2 != 0) = true then
   (some (({ Groups := 0, Slots := 0, Code := none } : T45), r_2.2))
  else
   (HF48 fu n >>= fun r_6 =>
    (if r_6 = true then
     (some (({ Groups := 0, Slots := 0, Code := none } : T45), 101))
    else
     (HF49 fu n >>= fun r_9 =>
      (if r_9 = true then
       (some (({ Groups := 0, Slots := 0, Code := none } : T45), 120))
      else
       (some (r_2.1, 0))))))))
theorem leF32 (fu : Nat) (n : T27) : Le (HF32 fu n) (F32 n) := by
  unfold HF32 F32
  repeat' (with_reducible first | exact leF19 fu _ | exact leF48 fu _ | exact leF49 fu _ | exact le_refl _ | apply le_ite | refine le_bind ?_ (fun _ => ?_))
noncomputable def HF63 (fu : Nat) (b : Bool) : Option Int :=
 (if b = true then
  (some 1)
 else
  (some 0))
theorem leF63 (fu : Nat) (b : Bool) : Le (HF63 fu b) (F63 b) := by
  unfold HF63 F63
  repeat' (with_reducible first | exact le_refl _ | apply le_ite | refine le_bind ?_ (fun _ => ?_))
noncomputable def HF58 (fu : Nat) (i : Int) (q0_ : Sl Bool) (q1_ : Sl Int) : Option (Sl Bool × Sl Int) :=
 (ix (ls q0_) i >>= fun v_2 =>
  (if (!v_2) = true then
   (ix (ls q0_) i >>= fun v_5 =>
    (if ((ls q1_).length + (ls (some ([i] : List Int))).length) * 8 ≤ 140737488355328 then
     (some ((vset q0_ i true), sapp q1_ (ls (some ([i] : List Int)))))
    else none))
  else
   (some (q0_, q1_))))
theorem leF58 (fu : Nat) (i : Int) (q0_ : Sl Bool) (q1_ : Sl Int) : Le (HF58 fu i q0_ q1_) (F58 i q0_ q1_) := by
  unfold HF58 F58
  repeat' (with_reducible first | exact le_refl _ | apply le_ite | refine le_bind ?_ (fun _ => ?_))
noncomputable def SG41 (fu : Nat)  (ih : St41 → Option (Sl Int)) : St41 → Option (Sl Int) := fun st => match st with
 | .p1 p t20_ t21_ t22_ in_ todo =>
  (if (decide (t22_ < t21_)) = true then
   (ix (ls t20_) t22_ >>= fun v_8 =>
    (ix (ls in_) v_8 >>= fun v_11 =>
     (ih (.p1 p t20_ t21_ (IntKind.wrap .i64 (t22_ + 1)) (vset in_ v_8 true) todo))))
  else
   (ih (.p2 p 0 in_ todo)))
 | .p2 p k in_ todo =>
  (if (decide (k < ((ls todo).length : Int))) = true then
   (ix (ls todo) k >>= fun v_17 =>
    (ix (ls p.Code) v_17 >>= fun v_19 =>
     (if (v_19.Kind == 1) = true then
      (ih (.p2 p (IntKind.wrap .i64 (k + 1)) in_ todo))
     else
      (if (v_19.Kind == 12) = true then
       (ih (.p2 p (IntKind.wrap .i64 (k + 1)) in_ todo))
      else
       (if (v_19.Kind == 2) = true then
        (ix (ls todo) k >>= fun v_25 =>
         (HF58 fu (IntKind.wrap .i64 (v_25 + 1)) in_ todo >>= fun r_27 =>
          (HF58 fu v_19.To r_27.1 r_27.2 >>= fun r_29 =>
           (ih (.p2 p (IntKind.wrap .i64 (k + 1)) r_29.1 r_29.2)))))
       else
        (if (v_19.Kind == 3) = true then
         (HF58 fu v_19.To in_ todo >>= fun r_32 =>
          (ih (.p2 p (IntKind.wrap .i64 (k + 1)) r_32.1 r_32.2)))
        else
         (ix (ls todo) k >>= fun v_34 =>
          (HF58 fu (IntKind.wrap .i64 (v_34 + 1)) in_ todo >>= fun r_36 =>
           (ih (.p2 p (IntKind.wrap .i64 (k + 1)) r_36.1 r_36.2))))))))))
  else
   (ih (.p3 p in_ ((ls in_).length : Int) 0 none)))
 | .p3 p t76_ t77_ t78_ out =>
  (if (decide (t78_ < t77_)) = true then
   (ix (ls t76_) t78_ >>= fun v_41 =>
    (if v_41 = true then
     (ix (ls p.Code) t78_ >>= fun v_44 =>
      (if (v_44.Kind == 1) = true then
       (ih (.p4 p t78_ t76_ t77_ t78_ out))
      else
       (ix (ls p.Code) t78_ >>= fun v_47 =>
        (if (v_47.Kind == 12) = true then
         (ih (.p4 p t78_ t76_ t77_ t78_ out))
        else
         (ih (.p3 p t76_ t77_ (IntKind.wrap .i64 (t78_ + 1)) out))))))
    else
     (ih (.p3 p t76_ t77_ (IntKind.wrap .i64 (t78_ + 1)) out))))
  else
   (some out))
 | .p4 p i t76_ t77_ t78_ out =>
  (if ((ls out).length + (ls (some ([i] : List Int))).length) * 8 ≤ 140737488355328 then
   (ih (.p3 p t76_ t77_ (IntKind.wrap .i64 (t78_ + 1)) (sapp out (ls (some ([i] : List Int))))))
  else none)
noncomputable def HG41 (fu : Nat)  : St41 → Option (Sl Int) :=
 Nat.rec (motive := fun _ => St41 → Option (Sl Int)) (fun _ => none) (fun fu ih => SG41 fu ih) fu
theorem HG41_s (fu : Nat)  (st : St41) : HG41 (fu + 1) st = SG41 fu (HG41 fu) st := rfl
theorem leG41 (fu : Nat) (st : St41) : Le (HG41 fu st) (G41 st) := by
  induction fu generalizing st with
  | zero => exact le_none _
  | succ fu ih =>
    cases st
    · rw [HG41_s, G41.eq_1]
      unfold SG41
      dsimp only
      generalize HG41 fu = hh at ih ⊢
      repeat' (with_reducible first | exact ih _ | exact leF58 fu _ _ _ | exact le_refl _ | apply le_ite | refine le_bind ?_ (fun _ => ?_))
    · rw [HG41_s, G41.eq_2]
      unfold SG41
      dsimp only
      generalize HG41 fu = hh at ih ⊢
      repeat' (with_reducible first | exact ih _ | exact leF58 fu _ _ _ | exact le_refl _ | apply le_ite | refine le_bind ?_ (fun _ => ?_))
    · rw [HG41_s, G41.eq_3]
      unfold SG41
      dsimp only
      generalize HG41 fu = hh at ih ⊢
      repeat' (with_reducible first | exact ih _ | exact leF58 fu _ _ _ | exact le_refl _ | apply le_ite | refine le_bind ?_ (fun _ => ?_))
    · rw [HG41_s, G41.eq_4]
      unfold SG41
      dsimp only
      generalize HG41 fu = hh at ih ⊢
      repeat' (with_reducible first | exact ih _ | exact leF58 fu _ _ _ | exact le_refl _ | apply le_ite | refine le_bind ?_ (fun _ => ?_))
noncomputable def HF41 (fu : Nat) (p : T45) (from_ : Sl Int) : Option (Sl Int) :=
 (if 0 ≤ ((ls p.Code).length : Int) ∧ ((ls p.Code).length : Int) = ((ls p.Code).length : Int) ∧ (1 : Int) * ((ls p.Code).length : Int) ≤ 281474976710656 then
  (HG41 fu (.p1 p from_ ((ls from_).length : Int) 0 (some (List.replicate (Int.toNat ((ls p.Code).length : Int)) (false : Bool))) from_))
 else none)
theorem leF41 (fu : Nat) (p : T45) (from_ : Sl Int) : Le (HF41 fu p from_) (F41 p from_) := by
  unfold HF41 F41
  repeat' (with_reducible first | exact leG41 fu _ | exact le_refl _ | apply le_ite | refine le_bind ?_ (fun _ => ?_))
noncomputable def SG44 (fu : Nat)  (ih : St44 → Option (Sl Int)) : St44 → Option (Sl Int) := fun st => match st with
 | .p1 c p t11_ t12_ t13_ next =>
  (if (decide (t13_ < t12_)) = true then
   (ix (ls t11_) t13_ >>= fun v_3 =>
    (ix (ls p.Code) v_3 >>= fun v_5 =>
     (if (v_5.Kind == 1) = true then
      (HF57 fu v_5.Set c >>= fun r_9 =>
       (if r_9 = true then
        (if ((ls next).length + (ls (some ([IntKind.wrap .i64 (v_3 + 1)] : List Int))).length) * 8 ≤ 140737488355328 then
         (ih (.p1 c p t11_ t12_ (IntKind.wrap .i64 (t13_ + 1)) (sapp next (ls (some ([IntKind.wrap .i64 (v_3 + 1)] : List Int))))))
        else none)
       else
        (ih (.p1 c p t11_ t12_ (IntKind.wrap .i64 (t13_ + 1)) next))))
     else
      (ih (.p1 c p t11_ t12_ (IntKind.wrap .i64 (t13_ + 1)) next)))))
  else
   (HF41 fu p next >>= fun r_15 =>
    (some r_15)))
noncomputable def HG44 (fu : Nat)  : St44 → Option (Sl Int) :=
 Nat.rec (motive := fun _ => St44 → Option (Sl Int)) (fun _ => none) (fun fu ih => SG44 fu ih) fu
theorem HG44_s (fu : Nat)  (st : St44) : HG44 (fu + 1) st = SG44 fu (HG44 fu) st := rfl
theorem leG44 (fu : Nat) (st : St44) : Le (HG44 fu st) (G44 st) := by
  induction fu generalizing st with
  | zero => exact le_none _
  | succ fu ih =>
    cases st
    · rw [HG44_s, G44.eq_1]
      unfold SG44
      dsimp only
      generalize HG44 fu = hh at ih ⊢
      repeat' (with_reducible first | exact ih _ | exact leF57 fu _ _ | exact leF41 fu _ _ | exact le_refl _ | apply le_ite | refine le_bind ?_ (fun _ => ?_))
noncomputable def HF44 (fu : Nat) (p : T45) (l : Sl Int) (c : Int) : Option (Sl Int) :=
 (HG44 fu (.p1 c p l ((ls l).length : Int) 0 none))
theorem leF44 (fu : Nat) (p : T45) (l : Sl Int) (c : Int) : Le (HF44 fu p l c) (F44 p l c) := by
  unfold HF44 F44
  repeat' (with_reducible first | exact leG44 fu _ | exact le_refl _ | apply le_ite | refine le_bind ?_ (fun _ => ?_))
noncomputable def HF40 (fu : Nat) (p : T45) (l : Sl Int) : Option Bool :=
 (if (decide (((ls l).length : Int) > 0)) = true then
  (ix (ls l) (IntKind.wrap .i64 (((ls l).length : Int) - 1)) >>= fun v_2 =>
   (some (v_2 == (IntKind.wrap .i64 (((ls p.Code).length : Int) - 1)))))
 else
  (some false))
theorem leF40 (fu : Nat) (p : T45) (l : Sl Int) : Le (HF40 fu p l) (F40 p l) := by
  unfold HF40 F40
  repeat' (with_reducible first | exact le_refl _ | apply le_ite | refine le_bind ?_ (fun _ => ?_))
noncomputable def SG42 (fu : Nat)  (ih : St42 → Option Str) : St42 → Option Str := fun st => match st with
 | .p1 x_ t9_ t10_ t11_ s =>
  (if (decide (t11_ < t10_)) = true then
   (ix (ls t9_) t11_ >>= fun v_3 =>
    (itoaF v_3 >>= fun r_5 =>
     (bWS s r_5 >>= fun r_7 =>
      (bWB r_7.2.2 32 >>= fun r_9 =>
       (ih (.p1 x_ t9_ t10_ (IntKind.wrap .i64 (t11_ + 1)) r_9.2))))))
  else
   (bWB s 47 >>= fun r_11 =>
    (ih (.p2 x_.b ((ls x_.b).length : Int) 0 r_11.2))))
 | .p2 t22_ t23_ t24_ s =>
  (if (decide (t24_ < t23_)) = true then
   (ix (ls t22_) t24_ >>= fun v_14 =>
    (itoaF v_14 >>= fun r_16 =>
     (bWS s r_16 >>= fun r_18 =>
      (bWB r_18.2.2 32 >>= fun r_20 =>
       (ih (.p2 t22_ t23_ (IntKind.wrap .i64 (t24_ + 1)) r_20.2))))))
  else
   (bST s >>= fun r_22 =>
    (some r_22)))
noncomputable def HG42 (fu : Nat)  : St42 → Option Str :=
 Nat.rec (motive := fun _ => St42 → Option Str) (fun _ => none) (fun fu ih => SG42 fu ih) fu
theorem HG42_s (fu : Nat)  (st : St42) : HG42 (fu + 1) st = SG42 fu (HG42 fu) st := rfl
theorem leG42 (fu : Nat) (st : St42) : Le (HG42 fu st) (G42 st) := by
  induction fu generalizing st with
  | zero => exact le_none _
  | succ fu ih =>
    cases st
    · rw [HG42_s, G42.eq_1]
      unfold SG42
      dsimp only
      generalize HG42 fu = hh at ih ⊢
      repeat' (with_reducible first | exact ih _ | exact le_refl _ | apply le_ite | refine le_bind ?_ (fun _ => ?_))
    · rw [HG42_s, G42.eq_2]
      unfold SG42
      dsimp only
      generalize HG42 fu = hh at ih ⊢
      repeat' (with_reducible first | exact ih _ | exact le_refl _ | apply le_ite | refine le_bind ?_ (fun _ => ?_))
noncomputable def HF42 (fu : Nat) (x_ : T80) : Option Str :=
 (HG42 fu (.p1 x_ x_.a ((ls x_.a).length : Int) 0 ([] : Str)))
theorem leF42 (fu : Nat) (x_ : T80) : Le (HF42 fu x_) (F42 x_) := by
  unfold HF42 F42
  repeat' (with_reducible first | exact leG42 fu _ | exact le_refl _ | apply le_ite | refine le_bind ?_ (fun _ => ?_))
noncomputable def SG43 (fu : Nat)  (ih : St43 → Option (Sl Int)) : St43 → Option (Sl Int) := fun st => match st with
 | .p1 p q_ t14_ seen out =>
  (if (decide (t14_ < 256)) = true then
   (ih (.p2 p q_ t14_ t14_ (some ([p.Code, q_.Code] : List (Sl T76))) ((ls (some ([p.Code, q_.Code] : List (Sl T76)))).length : Int) 0 seen out ([] : Str)))
  else
   (some out))
 | .p2 p q_ c t14_ t21_ t22_ t23_ seen out s =>
  (if (decide (t23_ < t22_)) = true then
   (ix (ls t21_) t23_ >>= fun v_7 =>
    (ih (.p3 p q_ c t14_ t21_ t22_ t23_ v_7 ((ls v_7).length : Int) 0 seen out s)))
  else
   (bST s >>= fun r_9 =>
    (if (!(Option.getD (Mp.get seen r_9) false)) = true then
     (bST s >>= fun r_12 =>
      (some (Mp.put seen r_12 true) >>= fun m_15 =>
       (if ((ls out).length + (ls (some ([IntKind.wrap .u8 c] : List Int))).length) * 1 ≤ 140737488355328 then
        (ih (.p1 p q_ (IntKind.wrap .i64 (t14_ + 1)) m_15 (sapp out (ls (some ([IntKind.wrap .u8 c] : List Int))))))
       else none)))
    else
     (ih (.p1 p q_ (IntKind.wrap .i64 (t14_ + 1)) seen out)))))
 | .p3 p q_ c t14_ t21_ t22_ t23_ t27_ t28_ t29_ seen out s =>
  (if (decide (t29_ < t28_)) = true then
   (ix (ls t27_) t29_ >>= fun v_21 =>
    (if (v_21.Kind == 1) = true then
     (HF57 fu v_21.Set (IntKind.wrap .u8 c) >>= fun r_25 =>
      (HF63 fu r_25 >>= fun r_27 =>
       (ix ([48, 49] : Str) r_27 >>= fun b_29 =>
        (bWB s (b_29.toNat : Int) >>= fun r_31 =>
         (ih (.p3 p q_ c t14_ t21_ t22_ t23_ t27_ t28_ (IntKind.wrap .i64 (t29_ + 1)) seen out r_31.2))))))
    else
     (ih (.p3 p q_ c t14_ t21_ t22_ t23_ t27_ t28_ (IntKind.wrap .i64 (t29_ + 1)) seen out s))))
  else
   (ih (.p2 p q_ c t14_ t21_ t22_ (IntKind.wrap .i64 (t23_ + 1)) seen out s)))
noncomputable def HG43 (fu : Nat)  : St43 → Option (Sl Int) :=
 Nat.rec (motive := fun _ => St43 → Option (Sl Int)) (fun _ => none) (fun fu ih => SG43 fu ih) fu
theorem HG43_s (fu : Nat)  (st : St43) : HG43 (fu + 1) st = SG43 fu (HG43 fu) st := rfl
theorem leG43 (fu : Nat) (st : St43) : Le (HG43 fu st) (G43 st) := by
  induction fu generalizing st with
  | zero => exact le_none _
  | succ fu ih =>
    cases st
    · rw [HG43_s, G43.eq_1]
      unfold SG43
      dsimp only
      generalize HG43 fu = hh at ih ⊢
      repeat' (with_reducible first | exact ih _ | exact leF57 fu _ _ | exact leF63 fu _ | exact le_refl _ | apply le_ite | refine le_bind ?_ (fun _ => ?_))
    · rw [HG43_s, G43.eq_2]
      unfold SG43
      dsimp only
      generalize HG43 fu = hh at ih ⊢
      repeat' (with_reducible first | exact ih _ | exact leF57 fu _ _ | exact leF63 fu _ | exact le_refl _ | apply le_ite | refine le_bind ?_ (fun _ => ?_))
    · rw [HG43_s, G43.eq_3]
      unfold SG43
      dsimp only
      generalize HG43 fu = hh at ih ⊢
      repeat' (with_reducible first | exact ih _ | exact leF57 fu _ _ | exact leF63 fu _ | exact le_refl _ | apply le_ite | refine le_bind ?_ (fun _ => ?_))
noncomputable def HF43 (fu : Nat) (p : T45) (q_ : T45) : Option (Sl Int) :=
 (HG43 fu (.p1 p q_ 0 (Mp.empty : Mp Str Bool) none))
theorem leF43 (fu : Nat) (p : T45) (q_ : T45) : Le (HF43 fu p q_) (F43 p q_) := by
  unfold HF43 F43
  repeat' (with_reducible first | exact leG43 fu _ | exact le_refl _ | apply le_ite | refine le_bind ?_ (fun _ => ?_))
noncomputable def HF23 (fu : Nat) (x_ : Bool) (y : Bool) : Option Bool :=
 (some (!(x_ == y)))
theorem leF23 (fu : Nat) (x_ : Bool) (y : Bool) : Le (HF23 fu x_ y) (F23 x_ y) := by
  unfold HF23 F23
  repeat' (with_reducible first | exact le_refl _ | apply le_ite | refine le_bind ?_ (fun _ => ?_))
noncomputable def HF31 (fu : Nat) (x_ : Bool) (y : Bool) : Option Bool :=
 (if x_ = true then
  (some y)
 else
  (some false))
theorem leF31 (fu : Nat) (x_ : Bool) (y : Bool) : Le (HF31 fu x_ y) (F31 x_ y) := by
  unfold HF31 F31
  repeat' (with_reducible first | exact le_refl _ | apply le_ite | refine le_bind ?_ (fun _ => ?_))
noncomputable def HF39 (fu : Nat) (x_ : T80) (q0_ : T45) (q1_ : T45) : Option (Bool × T45 × T45) :=
 (HF40 fu q0_ x_.a >>= fun r_1 =>
  (HF40 fu q1_ x_.b >>= fun r_3 =>
   (HF23 fu r_1 r_3 >>= fun r_5 =>
    (some (r_5, q0_, q1_)))))
theorem leF39 (fu : Nat) (x_ : T80) (q0_ : T45) (q1_ : T45) : Le (HF39 fu x_ q0_ q1_) (F39 x_ q0_ q1_) := by
  unfold HF39 F39
  repeat' (with_reducible first | exact leF40 fu _ _ | exact leF23 fu _ _ | exact le_refl _ | apply le_ite | refine le_bind ?_ (fun _ => ?_))
noncomputable def SG22 (fu : Nat)  (ih : St22 → Option (Str × Bool × Int)) : St22 → Option (Str × Bool × Int) := fun st => match st with
 | .p1 bytes k p q_ seen l =>
  (if (decide (k < ((ls l).length : Int))) = true then
   (ih (.p2 bytes k bytes ((ls bytes).length : Int) 0 p q_ seen l))
  else
   (some (([] : Str), false, 0)))
 | .p2 bytes k t63_ t64_ t65_ p q_ seen l =>
  (if (decide (t65_ < t64_)) = true then
   (ix (ls t63_) t65_ >>= fun v_34 =>
    (ix (ls l) k >>= fun v_39 =>
     (ix (ls l) k >>= fun v_41 =>
      (ix (ls l) k >>= fun v_43 =>
       (if (v_43.text).length + (toBs (ls (some ([v_34] : List Int)))).length ≤ 9223372036854775807 then
        (HF44 fu p v_39.a v_34 >>= fun r_48 =>
         (HF44 fu q_ v_41.b v_34 >>= fun r_50 =>
          (if (((ls r_48).length : Int) == 0) = true then
           (if (((ls r_50).length : Int) == 0) = true then
            (ih (.p2 bytes k t63_ t64_ (IntKind.wrap .i64 (t65_ + 1)) p q_ seen l))
           else
            (HF42 fu ({ a := r_48, b := r_50, text := v_43.text ++ (toBs (ls (some ([v_34] : List Int)))) } : T80) >>= fun r_54 =>
             (ih (.p3 bytes k t63_ t64_ t65_ (Option.getD (Mp.get seen r_54) false) p q_ seen l ({ a := r_48, b := r_50, text := v_43.text ++ (toBs (ls (some ([v_34] : List Int)))) } : T80)))))
          else
           (HF42 fu ({ a := r_48, b := r_50, text := v_43.text ++ (toBs (ls (some ([v_34] : List Int)))) } : T80) >>= fun r_56 =>
            (ih (.p3 bytes k t63_ t64_ t65_ (Option.getD (Mp.get seen r_56) false) p q_ seen l ({ a := r_48, b := r_50, text := v_43.text ++ (toBs (ls (some ([v_34] : List Int)))) } : T80)))))))
       else none)))))
  else
   (ih (.p1 bytes (IntKind.wrap .i64 (k + 1)) p q_ seen l)))
 | .p3 bytes k t63_ t64_ t65_ t110_ p q_ seen l x_ =>
  (if t110_ = true then
   (ih (.p2 bytes k t63_ t64_ (IntKind.wrap .i64 (t65_ + 1)) p q_ seen l))
  else
   (if (((ls l).length : Int) == 4096) = true then
    (some (([] : Str), false, 3))
   else
    (HF39 fu x_ p q_ >>= fun r_60 =>
     (if r_60.1 = true then
      (some (x_.text, true, 0))
     else
      (HF42 fu x_ >>= fun r_63 =>
       (some (Mp.put seen r_63 true) >>= fun m_66 =>
        (if ((ls l).length + (ls (some ([x_] : List T80))).length) * 64 ≤ 140737488355328 then
         (ih (.p2 bytes k t63_ t64_ (IntKind.wrap .i64 (t65_ + 1)) r_60.2.1 r_60.2.2 m_66 (sapp l (ls (some ([x_] : List T80))))))
        else none)))))))
noncomputable def HG22 (fu : Nat)  : St22 → Option (Str × Bool × Int) :=
 Nat.rec (motive := fun _ => St22 → Option (Str × Bool × Int)) (fun _ => none) (fun fu ih => SG22 fu ih) fu
theorem HG22_s (fu : Nat)  (st : St22) : HG22 (fu + 1) st = SG22 fu (HG22 fu) st := rfl
theorem leG22 (fu : Nat) (st : St22) : Le (HG22 fu st) (G22 st) := by
  induction fu generalizing st with
  | zero => exact le_none _
  | succ fu ih =>
    cases st
    · rw [HG22_s, G22.eq_1]
      unfold SG22
      dsimp only
      generalize HG22 fu = hh at ih ⊢
      repeat' (with_reducible first | exact ih _ | exact leF44 fu _ _ _ | exact leF42 fu _ | exact leF39 fu _ _ _ | exact le_refl _ | apply le_ite | refine le_bind ?_ (fun _ => ?_))
    · rw [HG22_s, G22.eq_2]
      unfold SG22
      dsimp only
      generalize HG22 fu = hh at ih ⊢
      repeat' (with_reducible first | exact ih _ | exact leF44 fu _ _ _ | exact leF42 fu _ | exact leF39 fu _ _ _ | exact le_refl _ | apply le_ite | refine le_bind ?_ (fun _ => ?_))
    · rw [HG22_s, G22.eq_3]
      unfold SG22
      dsimp only
      generalize HG22 fu = hh at ih ⊢
      repeat' (with_reducible first | exact ih _ | exact leF44 fu _ _ _ | exact leF42 fu _ | exact leF39 fu _ _ _ | exact le_refl _ | apply le_ite | refine le_bind ?_ (fun _ => ?_))
noncomputable def HF22 (fu : Nat) (m : T27) (n : T27) : Option (Str × Bool × Int) :=
 (HF32 fu m >>= fun r_1 =>
  (if (r_1.2 != 0) = true then
   (some (([] : Str), false, r_1.2))
  else
   (HF32 fu n >>= fun r_5 =>
    (if (r_5.2 != 0) = true then
     (some (([] : Str), false, r_5.2))
    else
     (HF41 fu r_1.1 (some ([0] : List Int)) >>= fun r_16 =>
      (HF41 fu r_5.1 (some ([0] : List Int)) >>= fun r_18 =>
       (HF39 fu ({ a := r_16, b := r_18, text := [] } : T80) r_1.1 r_5.1 >>= fun r_20 =>
        (if r_20.1 = true then
         (some (([] : Str), true, 0))
        else
         (HF42 fu ({ a := r_16, b := r_18, text := [] } : T80) >>= fun r_24 =>
          (some (Mp.put (Mp.empty : Mp Str Bool) r_24 true) >>= fun m_27 =>
           (HF43 fu r_20.2.1 r_20.2.2 >>= fun r_30 =>
            (HG22 fu (.p1 r_30 0 r_20.2.1 r_20.2.2 m_27 (some ([({ a := r_16, b := r_18, text := [] } : T80)] : List T80)))))))))))))))
theorem leF22 (fu : Nat) (m : T27) (n : T27) : Le (HF22 fu m n) (F22 m n) := by
  unfold HF22 F22
  repeat' (with_reducible first | exact leF32 fu _ | exact leF41 fu _ _ | exact leF39 fu _ _ _ | exact leF42 fu _ | exact leF43 fu _ _ | exact leG22 fu _ | exact le_refl _ | apply le_ite | refine le_bind ?_ (fun _ => ?_))
noncomputable def HF13 (fu : Nat) (a : T27) (b : T27) : Option (Bool × Str × Int) :=
 (HF22 fu a b >>= fun r_1 =>
  (if (!r_1.2.1) = true then
   (some ((r_1.2.2 == 0), r_1.1, r_1.2.2))
  else
   (some (false, r_1.1, r_1.2.2))))
theorem leF13 (fu : Nat) (a : T27) (b : T27) : Le (HF13 fu a b) (F13 a b) := by
  unfold HF13 F13
  repeat' (with_reducible first | exact leF22 fu _ _ | exact le_refl _ | apply le_ite | refine le_bind ?_ (fun _ => ?_))
noncomputable def HF39v3 (fu : Nat) (x_ : T80) (q0_ : T45) (q1_ : T45) : Option (Bool × T45 × T45) :=
 (HF40 fu q0_ x_.a >>= fun r_1 =>
  (HF40 fu q1_ x_.b >>= fun r_3 =>
   (HF31 fu r_1 r_3 >>= fun r_5 =>
    (some (r_5, q0_, q1_)))))
theorem leF39v3 (fu : Nat) (x_ : T80) (q0_ : T45) (q1_ : T45) : Le (HF39v3 fu x_ q0_ q1_) (F39v3 x_ q0_ q1_) := by
  unfold HF39v3 F39v3
  repeat' (with_reducible first | exact leF40 fu _ _ | exact leF31 fu _ _ | exact le_refl _ | apply le_ite | refine le_bind ?_ (fun _ => ?_))
noncomputable def SG22v3 (fu : Nat)  (ih : St22v3 → Option (Str × Bool × Int)) : St22v3 → Option (Str × Bool × Int) := fun st => match st with
 | .p1 bytes k p q_ seen l =>
  (if (decide (k < ((ls l).length : Int))) = true then
   (ih (.p2 bytes k bytes ((ls bytes).length : Int) 0 p q_ seen l))
  else
   (some (([] : Str), false, 0)))
 | .p2 bytes k t63_ t64_ t65_ p q_ seen l =>
  (if (decide (t65_ < t64_)) = true then
   (ix (ls t63_) t65_ >>= fun v_34 =>
    (ix (ls l) k >>= fun v_39 =>
     (ix (ls l) k >>= fun v_41 =>
      (ix (ls l) k >>= fun v_43 =>
       (if (v_43.text).length + (toBs (ls (some ([v_34] : List Int)))).length ≤ 9223372036854775807 then
        (HF44 fu p v_39.a v_34 >>= fun r_48 =>
         (HF44 fu q_ v_41.b v_34 >>= fun r_50 =>
          (if (((ls r_48).length : Int) == 0) = true then
           (if (((ls r_50).length : Int) == 0) = true then
            (ih (.p2 bytes k t63_ t64_ (IntKind.wrap .i64 (t65_ + 1)) p q_ seen l))
           else
            (HF42 fu ({ a := r_48, b := r_50, text := v_43.text ++ (toBs (ls (some ([v_34] : List Int)))) } : T80) >>= fun r_54 =>
             (ih (.p3 bytes k t63_ t64_ t65_ (Option.getD (Mp.get seen r_54) false) p q_ seen l ({ a := r_48, b := r_50, text := v_43.text ++ (toBs (ls (some ([v_34] : List Int)))) } : T80)))))
          else
           (HF42 fu ({ a := r_48, b := r_50, text := v_43.text ++ (toBs (ls (some ([v_34] : List Int)))) } : T80) >>= fun r_56 =>
            (ih (.p3 bytes k t63_ t64_ t65_ (Option.getD (Mp.get seen r_56) false) p q_ seen l ({ a := r_48, b := r_50, text := v_43.text ++ (toBs (ls (some ([v_34] : List Int)))) } : T80)))))))
       else none)))))
  else
   (ih (.p1 bytes (IntKind.wrap .i64 (k + 1)) p q_ seen l)))
 | .p3 bytes k t63_ t64_ t65_ t110_ p q_ seen l x_ =>
  (if t110_ = true then
   (ih (.p2 bytes k t63_ t64_ (IntKind.wrap .i64 (t65_ + 1)) p q_ seen l))
  else
   (if (((ls l).length : Int) == 4096) = true then
    (some (([] : Str), false, 3))
   else
    (HF39v3 fu x_ p q_ >>= fun r_60 =>
     (if r_60.1 = true then
      (some (x_.text, true, 0))
     else
      (HF42 fu x_ >>= fun r_63 =>
       (some (Mp.put seen r_63 true) >>= fun m_66 =>
        (if ((ls l).length + (ls (some ([x_] : List T80))).length) * 64 ≤ 140737488355328 then
         (ih (.p2 bytes k t63_ t64_ (IntKind.wrap .i64 (t65_ + 1)) r_60.2.1 r_60.2.2 m_66 (sapp l (ls (some ([x_] : List T80))))))
        else none)))))))
noncomputable def HG22v3 (fu : Nat)  : St22v3 → Option (Str × Bool × Int) :=
 Nat.rec (motive := fun _ => St22v3 → Option (Str × Bool × Int)) (fun _ => none) (fun fu ih => SG22v3 fu ih) fu
theorem HG22v3_s (fu : Nat)  (st : St22v3) : HG22v3 (fu + 1) st = SG22v3 fu (HG22v3 fu) st := rfl
theorem leG22v3 (fu : Nat) (st : St22v3) : Le (HG22v3 fu st) (G22v3 st) := by
  induction fu generalizing st with
  | zero => exact le_none _
  | succ fu ih =>
    cases st
    · rw [HG22v3_s, G22v3.eq_1]
      unfold SG22v3
      dsimp only
      generalize HG22v3 fu = hh at ih ⊢
      repeat' (with_reducible first | exact ih _ | exact leF44 fu _ _ _ | exact leF42 fu _ | exact leF39v3 fu _ _ _ | exact le_refl _ | apply le_ite | refine le_bind ?_ (fun _ => ?_))
    · rw [HG22v3_s, G22v3.eq_2]
      unfold SG22v3
      dsimp only
      generalize HG22v3 fu = hh at ih ⊢
      repeat' (with_reducible first | exact ih _ | exact leF44 fu _ _ _ | exact leF42 fu _ | exact leF39v3 fu _ _ _ | exact le_refl _ | apply le_ite | refine le_bind ?_ (fun _ => ?_))
    · rw [HG22v3_s, G22v3.eq_3]
      unfold SG22v3
      dsimp only
      generalize HG22v3 fu = hh at ih ⊢
      repeat' (with_reducible first | exact ih _ | exact leF44 fu _ _ _ | exact leF42 fu _ | exact leF39v3 fu _ _ _ | exact le_refl _ | apply le_ite | refine le_bind ?_ (fun _ => ?_))
noncomputable def HF22v3 (fu : Nat) (m : T27) (n : T27) : Option (Str × Bool × Int) :=
 (HF32 fu m >>= fun r_1 =>
  (if (r_1.2 != 0) = true then
   (some (([] : Str), false, r_1.2))
  else
   (HF32 fu n >>= fun r_5 =>
    (if (r_5.2 != 0) = true then
     (some (([] : Str), false, r_5.2))
    else
     (HF41 fu r_1.1 (some ([0] : List Int)) >>= fun r_16 =>
      (HF41 fu r_5.1 (some ([0] : List Int)) >>= fun r_18 =>
       (HF39v3 fu ({ a := r_16, b := r_18, text := [] } : T80) r_1.1 r_5.1 >>= fun r_20 =>
        (if r_20.1 = true then
         (some (([] : Str), true, 0))
        else
         (HF42 fu ({ a := r_16, b := r_18, text := [] } : T80) >>= fun r_24 =>
          (some (Mp.put (Mp.empty : Mp Str Bool) r_24 true) >>= fun m_27 =>
           (HF43 fu r_20.2.1 r_20.2.2 >>= fun r_30 =>
            (HG22v3 fu (.p1 r_30 0 r_20.2.1 r_20.2.2 m_27 (some ([({ a := r_16, b := r_18, text := [] } : T80)] : List T80)))))))))))))))
theorem leF22v3 (fu : Nat) (m : T27) (n : T27) : Le (HF22v3 fu m n) (F22v3 m n) := by
  unfold HF22v3 F22v3
  repeat' (with_reducible first | exact leF32 fu _ | exact leF41 fu _ _ | exact leF39v3 fu _ _ _ | exact leF42 fu _ | exact leF43 fu _ _ | exact leG22v3 fu _ | exact le_refl _ | apply le_ite | refine le_bind ?_ (fun _ => ?_))
noncomputable def HF16 (fu : Nat) (a : T27) (b : T27) : Option (Str × Bool × Int) :=
 (HF22v3 fu a b >>= fun r_1 =>
  (some (r_1.1, r_1.2.1, r_1.2.2)))
theorem leF16 (fu : Nat) (a : T27) (b : T27) : Le (HF16 fu a b) (F16 a b) := by
  unfold HF16 F16
  repeat' (with_reducible first | exact leF22v3 fu _ _ | exact le_refl _ | apply le_ite | refine le_bind ?_ (fun _ => ?_))
noncomputable def HF17 (fu : Nat) (n : T27) : Option (Str × Bool × Int) :=
 (HF16 fu n n >>= fun r_1 =>
  (some (r_1.1, r_1.2.1, r_1.2.2)))
theorem leF17 (fu : Nat) (n : T27) : Le (HF17 fu n) (F17 n) := by
  unfold HF17 F17
  repeat' (with_reducible first | exact leF16 fu _ _ | exact le_refl _ | apply le_ite | refine le_bind ?_ (fun _ => ?_))
noncomputable def HF21 (fu : Nat) (c : Int) : Option T27 :=
 (if 0 ≤ (Int.tmod c 64) then
  (if (0 : Int) ≤ (IntKind.wrap .u8 (Int.tdiv c 64)) ∧ (IntKind.wrap .u8 (Int.tdiv c 64)) < (4 : Int) then
   (some ({ Kind := 2, Set := (aset (Arr.rep 4 (0 : Int)) (IntKind.wrap .u8 (Int.tdiv c 64)) (shlI .u64 1 (Int.tmod c 64))), Min := 0, Max := 0, Group := 0, Kids := none } : T27))
  else none)
 else none)
theorem leF21 (fu : Nat) (c : Int) : Le (HF21 fu c) (F21 c) := by
  unfold HF21 F21
  repeat' (with_reducible first | exact le_refl _ | apply le_ite | refine le_bind ?_ (fun _ => ?_))
noncomputable def HF7 (fu : Nat)  : Option Bool :=
 (HF21 fu 97 >>= fun r_1 =>
  (HF13 fu ({ Kind := 5, Set := (Arr.rep 4 (0 : Int)), Min := 0, Max := (-1), Group := 0, Kids := (some ([r_1] : List T27)) } : T27) ({ Kind := 5, Set := (Arr.rep 4 (0 : Int)), Min := 1, Max := (-1), Group := 0, Kids := (some ([r_1] : List T27)) } : T27) >>= fun r_6 =>
   (HF21 fu 98 >>= fun r_11 =>
    (HF21 fu 98 >>= fun r_16 =>
     (HF13 fu ({ Kind := 4, Set := (Arr.rep 4 (0 : Int)), Min := 0, Max := 0, Group := 0, Kids := (some ([r_1, r_11] : List T27)) } : T27) ({ Kind := 4, Set := (Arr.rep 4 (0 : Int)), Min := 0, Max := 0, Group := 0, Kids := (some ([r_16, r_1] : List T27)) } : T27) >>= fun r_18 =>
      (HF17 fu ({ Kind := 5, Set := (Arr.rep 4 (0 : Int)), Min := 1, Max := (-1), Group := 0, Kids := (some ([r_1] : List T27)) } : T27) >>= fun r_20 =>
       (if (!r_6.1) = true then
        (if (r_6.2.1 == ([] : Str)) = true then
         (if (r_6.2.2 == 0) = true then
          (if r_18.1 = true then
           (if (r_18.2.1 == ([] : Str)) = true then
            (if (r_18.2.2 == 0) = true then
             (if r_20.2.1 = true then
              (if (r_20.1 == ([97] : Str)) = true then
               (some (r_20.2.2 == 0))
              else
               (some false))
             else
              (some false))
            else
             (some false))
           else
            (some false))
          else
           (some false))
         else
          (some false))
        else
         (some false))
       else
        (some false))))))))
theorem leF7 (fu : Nat)  : Le (HF7 fu ) (F7 ) := by
  unfold HF7 F7
  repeat' (with_reducible first | exact leF21 fu _ | exact leF13 fu _ _ | exact leF17 fu _ | exact le_refl _ | apply le_ite | refine le_bind ?_ (fun _ => ?_))
end Go.Proofs.YtcidnoghoifmmaaDoor
end
section
/-
  What each law begins with.
-/


set_option maxRecDepth 1000000
namespace Go.Proofs.YtcidnoghoifmmaaDoor
open Go AW
theorem f7 : F7 = some true := leF7 8000 true (by kernel_rfl)
end Go.Proofs.YtcidnoghoifmmaaDoor
end
section
/-
  DerivRuns, plain: what is accepted is what the program of layer 10 matches whole.
-/


namespace Go.Proofs.YtcidnoghoifmmaaDoor
open Go AW
set_option linter.unusedVariables false
set_option linter.unusedSimpArgs false
set_option maxHeartbeats 4000000
theorem pureDerivRuns (n : T27) (s : Str) (hs : s.length ≤ 100000000) : F6 n s = some true := by
  unfold F6 F18 F32
  obtain ⟨r, hr, w, hw, h1, h2, h3⟩ := f10 n
  rw [f7, sm, if_neg (by simp)]
  by_cases h0 : r.2 = 0
  · obtain ⟨hg, hc, hsz, hw1, hp⟩ := h3 (by rw [← h1]; exact h0)
    obtain ⟨b, hb9⟩ := f49 (n := n) (by omega)
    simp only [hr, sm, nfi h0, f48 (n := n) (by omega), hb9]
    cases bk n with
    | true => simp
    | false =>
      cases b with
      | true => simp
      | false =>
        simp only [Bool.false_eq_true, if_false]
        have hrp : rp r.1 = true := by rw [hp]; exact rp_prg hg hc hsz
        have e := f21 r.1 hs ({ From := 0, To := ((s).length : Int) } : T50)
        have hn : ¬ ((s.length : Int) < 0) := by omega
        unfold flt at e
        rw [if_pos hrp] at e
        by_cases hh : hb (ls r.1.Code) = true
        · simp only [hh, if_true] at e
          rw [if_pos (by decide)] at e
          simp [e]
        · simp only [hh, Bool.false_eq_true, if_false] at e
          rw [if_neg (by simp), if_neg (by simp [hn])] at e
          simp [e]
  · simp only [hr, sm, nti h0]
    simp
end Go.Proofs.YtcidnoghoifmmaaDoor
end
section
/-
  DerivRuns, plain, for arguments of bounded bulk.
-/


namespace Go.Proofs.YtcidnoghoifmmaaDoor
open Go AW
theorem pureUDerivRuns (a0 : T27) (a1 : Str) (w0 : okr27 a0) (hb : bkr27 a0 + bkS a1 ≤ 1048576) : F6 a0 a1 = some true := pureDerivRuns a0 a1 (by have : bkS a1 = a1.length + 1 := rfl; omega)
end Go.Proofs.YtcidnoghoifmmaaDoor
end
