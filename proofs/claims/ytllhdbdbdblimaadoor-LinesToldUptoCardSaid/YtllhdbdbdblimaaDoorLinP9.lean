/-
  Lines: listings read, in both ways.
-/
import Derived.Test.YtllhdbdbdblimaaDoorLinP8
namespace Go.Proofs.YtllhdbdbdblimaaDoor
open Go AW
set_option linter.unusedVariables false
set_option linter.unusedSimpArgs false
/-- One step of reading a listing; what follows is handed on. -/
def stL (s : Str) (i : Nat) (cut : Bool) (out : Sl Int) (b : UInt8) (K : Bool → Nat → Sl Int → Option (Str × Int × Int)) : Option (Str × Int × Int) :=
  if b = 36 ∧ s[i + 1]? = some 10 ∧ cut = false then (if i + 2 < s.length then some ([], 10, ((i + 2 : Nat) : Int)) else some (toBs (ls out), 0, 0))
  else if b = 92 ∧ s[i + 1]? = some 10 then (if cut = true ∨ (ls out).length = 0 then some ([], 10, ((i + 1 : Nat) : Int)) else K true (i + 2) out)
  else if (one1 false (s.drop i)).2.2 = true then K false (i + (one1 false (s.drop i)).2.1) (sapp out [(one1 false (s.drop i)).1]) else some ([], 10, ((i + (one1 false (s.drop i)).2.1 : Nat) : Int))
theorem b10' (b : UInt8) : (((b.toNat : Int)) == 10) = decide (b = 10) := b_eq b 10 (by omega)
theorem b36 (b : UInt8) : (((b.toNat : Int)) == 36) = decide (b = 36) := b_eq b 36 (by omega)
theorem u28p4 (s : Str) (i : Nat) (cut : Bool) (out : Sl Int) (hi : i < s.length) (hs : s.length ≤ 10000000000) (ho : (ls out).length ≤ i) {b : UInt8} (hb : s[i]? = some b) (h1 : ¬ (b = 36 ∧ s[i + 1]? = some 10 ∧ cut = false)) (h2 : ¬ (b = 92 ∧ s[i + 1]? = some 10)) :
    G28 (.p4 s (i : Int) out) = stL s i cut out b fun c i o => G28 (.p1 s c (i : Int) o) := by
  unfold stL
  rw [if_neg h1, if_neg h2, G28.eq_4, f43 s i false hi hs, sm]
  by_cases hk : (one1 false (s.drop i)).2.2 = true
  · rw [out3_ok hk, if_pos hk, if_neg (by simp), if_pos (by simp [ls] at ho ⊢; omega)]
    rfl
  · have hk' : (one1 false (s.drop i)).2.2 = false := by simpa using hk
    rw [out3_bad hk', if_neg hk]
    simp only []
    rw [dti (by omega)]
theorem u28p2 (s : Str) (i : Nat) (cut : Bool) (out : Sl Int) (hi : i < s.length) (hs : s.length ≤ 10000000000) (ho : (ls out).length ≤ i) {b : UInt8} (hb : s[i]? = some b) (h1 : ¬ (b = 36 ∧ s[i + 1]? = some 10 ∧ cut = false)) :
    G28 (.p2 s cut (i : Int) out) = stL s i cut out b fun c i o => G28 (.p1 s c (i : Int) o) := by
  have e1 : IntKind.wrap .i64 ((i : Int) + 1) = ((i + 1 : Nat) : Int) := wn1 i (by omega)
  have e2 : IntKind.wrap .i64 ((i : Int) + 2) = ((i + 2 : Nat) : Int) := by rw [wi _ (by omega) (by omega)]; omega
  rw [G28.eq_2, ixs hb, sm, b92, e1, e2]
  by_cases h92 : b = 92
  · rw [dti h92]
    by_cases hend : ((i + 1 : Nat) : Int) < (s.length : Int)
    · obtain ⟨c, hc⟩ := get_ex s (i := i + 1) (by omega)
      rw [dti hend, ixs hc, sm, b10']
      by_cases hc10 : c = 10
      · have h2 : b = 92 ∧ s[i + 1]? = some 10 := ⟨h92, by rw [hc, hc10]⟩
        unfold stL
        rw [dti hc10, if_neg h1, if_pos h2]
        by_cases hcut : cut = true
        · rw [if_pos hcut, if_pos (.inl hcut), G28.eq_3, e1]
        · rw [if_neg hcut]
          by_cases hl : (ls out).length = 0
          · rw [if_pos (by simp [hl]), if_pos (.inr hl), G28.eq_3, e1]
          · have hP : ¬ (cut = true ∨ (ls out).length = 0) := fun h => by rcases h with h | h; exact hcut h; exact hl h
            rw [if_neg (by simp only [beq_iff_eq]; omega), if_neg hP]
      · rw [dfi hc10]
        exact u28p4 s i cut out hi hs ho hb h1 fun h => hc10 (by have := h.2; rw [hc] at this; simpa using this)
    · rw [dfi hend]
      exact u28p4 s i cut out hi hs ho hb h1 fun h => by
        have := h.2
        rw [List.getElem?_eq_none (by omega)] at this
        cases this
  · rw [dfi h92]
    exact u28p4 s i cut out hi hs ho hb h1 fun h => h92 h.1
theorem u28 (s : Str) (i : Nat) (cut : Bool) (out : Sl Int) (hi : i < s.length) (hs : s.length ≤ 10000000000) (ho : (ls out).length ≤ i) {b : UInt8} (hb : s[i]? = some b) :
    G28 (.p1 s cut (i : Int) out) = stL s i cut out b fun c i o => G28 (.p1 s c (i : Int) o) := by
  have e1 : IntKind.wrap .i64 ((i : Int) + 1) = ((i + 1 : Nat) : Int) := wn1 i (by omega)
  have e2 : IntKind.wrap .i64 ((i : Int) + 2) = ((i + 2 : Nat) : Int) := by rw [wi _ (by omega) (by omega)]; omega
  rw [G28.eq_1, if_neg (by simpa using by omega), ixs hb, sm, b36, e1, e2]
  by_cases h36 : b = 36
  · rw [dti h36]
    by_cases hend : ((i + 1 : Nat) : Int) < (s.length : Int)
    · obtain ⟨c, hc⟩ := get_ex s (i := i + 1) (by omega)
      rw [dti hend, ixs hc, sm, b10']
      by_cases hc10 : c = 10
      · rw [dti hc10]
        by_cases hcut : cut = true
        · rw [if_neg (by simp [hcut])]
          exact u28p2 s i cut out hi hs ho hb fun h => by rw [hcut] at h; cases h.2.2
        · have hcut' : cut = false := by simpa using hcut
          have h1 : b = 36 ∧ s[i + 1]? = some 10 ∧ cut = false := ⟨h36, by rw [hc, hc10], hcut'⟩
          unfold stL
          rw [if_pos (by simp [hcut']), if_pos h1]
          by_cases hx : i + 2 < s.length
          · rw [dti (by omega), if_pos hx]
          · rw [dfi (by omega), if_neg hx]
      · rw [dfi hc10]
        exact u28p2 s i cut out hi hs ho hb fun h => hc10 (by have := h.2.1; rw [hc] at this; simpa using this)
    · rw [dfi hend]
      exact u28p2 s i cut out hi hs ho hb fun h => by
        have := h.2.1
        rw [List.getElem?_eq_none (by omega)] at this
        cases this
  · rw [dfi h36]
    exact u28p2 s i cut out hi hs ho hb fun h => h36 h.1
/-- Whether a row may end here. -/
def btw (cut : Bool) (out : Sl Int) : Bool := !cut && decide ((ls out).length ≠ 0)
theorem btw_app (out : Sl Int) (x : Int) : btw false (sapp out [x]) = true := by simp [btw, ls_sapp]
theorem u29p3 (s : Str) (i : Nat) (cut : Bool) (out : Sl Int) (hi : i < s.length) (hs : s.length ≤ 10000000000) (ho : (ls out).length ≤ i) {b : UInt8} (hb : s[i]? = some b) (h1 : ¬ (b = 36 ∧ s[i + 1]? = some 10 ∧ cut = false)) (h2 : ¬ (b = 92 ∧ s[i + 1]? = some 10 ∧ btw cut out = true)) :
    G29 (.p3 s (i : Int) (b.toNat : Int) out) = stL s i cut out b fun c i o => G29 (.p1 s (btw c o) c (i : Int) o) := by
  have e1 : IntKind.wrap .i64 ((i : Int) + 1) = ((i + 1 : Nat) : Int) := wn1 i (by omega)
  have hbl := b.toNat_lt
  unfold stL
  rw [if_neg h1, drop_cons hb, one1_cons, G29.eq_3, b92, e1]
  by_cases h92 : b = 92
  · rw [dti h92, f44 s (i + 1) (by omega) hs, sm, if_pos h92]
    have hP : ¬ (false = true ∧ (s.drop (i + 1)).head? = some 34) := fun h => by cases h.1
    rw [if_neg hP]
    have key : ∀ e : Int × Nat × Bool, (if (!(out2 (i + 1) e).2.2) = true then (some (([] : Str), (10 : Int), (out2 (i + 1) e).2.1)) else (if ((ls out).length + (ls (some ([(out2 (i + 1) e).1] : List Int))).length) * 1 ≤ 140737488355328 then (G29 (.p1 s true false (out2 (i + 1) e).2.1 (sapp out (ls (some ([(out2 (i + 1) e).1] : List Int)))))) else none)) =
        if e.2.2 = true then G29 (.p1 s (btw false (sapp out [e.1])) false ((i + (e.2.1 + 1) : Nat) : Int) (sapp out [e.1])) else some ([], 10, ((i + (e.2.1 + 1) : Nat) : Int)) := by
      intro e
      by_cases hk : e.2.2 = true
      · simp only [out2, hk, if_true]
        rw [if_neg (by simp), if_pos (by simp [ls] at ho ⊢; omega), btw_app, show i + 1 + e.2.1 = i + (e.2.1 + 1) by omega]
        rfl
      · simp only [out2, hk, if_false]
        rw [if_pos (by simp), show i + 1 + e.2.1 = i + (e.2.1 + 1) by omega]
        rfl
    by_cases h10 : s[i + 1]? = some 10
    · have hnb : cut = true ∨ (ls out).length = 0 := by
        have hb' : btw cut out = false := by
          cases hbb : btw cut out with
          | false => rfl
          | true => exact absurd ⟨h92, h10, hbb⟩ h2
        unfold btw at hb'
        cases cut <;> simp_all
      have hE : esc (s.drop (i + 1)) = (0, 0, false) := by
        rw [drop_cons h10]
        have l10 : let2 10 = none := by decide
        simp [esc, l10, dg]
      rw [key, hE, if_pos (show b = 92 ∧ s[i + 1]? = some 10 from ⟨h92, h10⟩), if_pos hnb]
      simp
    · rw [key, if_neg (show ¬ (b = 92 ∧ s[i + 1]? = some 10) from fun h => h10 h.2)]
  · rw [dfi h92, if_neg (show ¬ (b = 92 ∧ s[i + 1]? = some 10) from fun h => h92 h.1), if_neg h92]
    by_cases h32 : b.toNat < 32
    · have hP : b.toNat < 32 ∨ 127 ≤ b.toNat ∨ (false = true ∧ b = 34) := .inl h32
      rw [dfi (by omega), G29.eq_4, if_pos hP]
      simp
    · by_cases h127 : 127 ≤ b.toNat
      · have hP : b.toNat < 32 ∨ 127 ≤ b.toNat ∨ (false = true ∧ b = 34) := .inr (.inl h127)
        rw [dti (by omega), dfi (by omega), G29.eq_4, if_pos hP]
        simp
      · have hP : ¬ (b.toNat < 32 ∨ 127 ≤ b.toNat ∨ (false = true ∧ b = 34)) := fun hx => by rcases hx with hx | hx | hx; exact h32 hx; exact h127 hx; cases hx.1
        rw [dti (by omega), dti (by omega), if_neg hP, if_pos (by simp [ls] at ho ⊢; omega)]
        simp only [if_true]
        rw [btw_app]
        rfl
theorem u29p2 (s : Str) (i : Nat) (cut : Bool) (out : Sl Int) (hi : i < s.length) (hs : s.length ≤ 10000000000) (ho : (ls out).length ≤ i) {b : UInt8} (hb : s[i]? = some b) (h1 : ¬ (b = 36 ∧ s[i + 1]? = some 10 ∧ cut = false)) :
    G29 (.p2 s (btw cut out) (i : Int) (b.toNat : Int) out) = stL s i cut out b fun c i o => G29 (.p1 s (btw c o) c (i : Int) o) := by
  have e1 : IntKind.wrap .i64 ((i : Int) + 1) = ((i + 1 : Nat) : Int) := wn1 i (by omega)
  have e2 : IntKind.wrap .i64 ((i : Int) + 2) = ((i + 2 : Nat) : Int) := by rw [wi _ (by omega) (by omega)]; omega
  rw [G29.eq_2, b92, e1, e2]
  by_cases h92 : b = 92
  · rw [dti h92]
    by_cases hbt : btw cut out = true
    · rw [if_pos hbt]
      by_cases hend : ((i + 1 : Nat) : Int) < (s.length : Int)
      · obtain ⟨c, hc⟩ := get_ex s (i := i + 1) (by omega)
        rw [dti hend, ixs hc, sm, b10']
        by_cases hc10 : c = 10
        · have h2 : b = 92 ∧ s[i + 1]? = some 10 := ⟨h92, by rw [hc, hc10]⟩
          have hP : ¬ (cut = true ∨ (ls out).length = 0) := by
            unfold btw at hbt
            cases cut <;> simp_all
          unfold stL
          rw [dti hc10, if_neg h1, if_pos h2, if_neg hP]
          simp [btw]
        · rw [dfi hc10]
          exact u29p3 s i cut out hi hs ho hb h1 fun h => hc10 (by have := h.2.1; rw [hc] at this; simpa using this)
      · rw [dfi hend]
        exact u29p3 s i cut out hi hs ho hb h1 fun h => by
          have := h.2.1
          rw [List.getElem?_eq_none (by omega)] at this
          cases this
    · rw [if_neg hbt]
      exact u29p3 s i cut out hi hs ho hb h1 fun h => hbt h.2.2
  · rw [dfi h92]
    exact u29p3 s i cut out hi hs ho hb h1 fun h => h92 h.1
theorem u29 (s : Str) (i : Nat) (cut : Bool) (out : Sl Int) (hi : i < s.length) (hs : s.length ≤ 10000000000) (ho : (ls out).length ≤ i) {b : UInt8} (hb : s[i]? = some b) :
    G29 (.p1 s (btw cut out) cut (i : Int) out) = stL s i cut out b fun c i o => G29 (.p1 s (btw c o) c (i : Int) o) := by
  have e1 : IntKind.wrap .i64 ((i : Int) + 1) = ((i + 1 : Nat) : Int) := wn1 i (by omega)
  have e2 : IntKind.wrap .i64 ((i : Int) + 2) = ((i + 2 : Nat) : Int) := by rw [wi _ (by omega) (by omega)]; omega
  rw [G29.eq_1, dti (by omega), ixs hb, sm, b36, e1, e2]
  by_cases h36 : b = 36
  · rw [dti h36]
    by_cases hcut : cut = true
    · rw [if_neg (by simp [hcut])]
      exact u29p2 s i cut out hi hs ho hb fun h => by rw [hcut] at h; cases h.2.2
    · have hcut' : cut = false := by simpa using hcut
      rw [if_pos (by simp [hcut'])]
      by_cases hend : ((i + 1 : Nat) : Int) < (s.length : Int)
      · obtain ⟨c, hc⟩ := get_ex s (i := i + 1) (by omega)
        rw [dti hend, ixs hc, sm, b10']
        by_cases hc10 : c = 10
        · have h1 : b = 36 ∧ s[i + 1]? = some 10 ∧ cut = false := ⟨h36, by rw [hc, hc10], hcut'⟩
          unfold stL
          rw [dti hc10, if_pos h1]
          by_cases hx : i + 2 < s.length
          · rw [dti (by omega), if_pos hx]
          · rw [dfi (by omega), if_neg hx]
        · rw [dfi hc10]
          exact u29p2 s i cut out hi hs ho hb fun h => hc10 (by have := h.2.1; rw [hc] at this; simpa using this)
      · rw [dfi hend]
        exact u29p2 s i cut out hi hs ho hb fun h => by
          have := h.2.1
          rw [List.getElem?_eq_none (by omega)] at this
          cases this
  · rw [dfi h36]
    exact u29p2 s i cut out hi hs ho hb fun h => h36 h.1
theorem u2829 (s : Str) (hs : s.length ≤ 10000000000) : ∀ (n i : Nat) (cut : Bool) (out : Sl Int), s.length ≤ n + i → i ≤ s.length → (ls out).length ≤ i → ∃ r, G28 (.p1 s cut (i : Int) out) = some r ∧ G29 (.p1 s (btw cut out) cut (i : Int) out) = some r
  | n, i, cut, out, hn, hi, ho => by
    by_cases he : i = s.length
    · refine ⟨_, by rw [G28.eq_1, if_pos (by simpa using by omega)], by rw [G29.eq_1, dfi (by omega), he]⟩
    · obtain ⟨b, hb⟩ := get_ex s (i := i) (by omega)
      rw [u28 s i cut out (by omega) hs ho hb, u29 s i cut out (by omega) hs ho hb]
      have hl := one1_len false b (s.drop (i + 1))
      rw [← drop_cons hb] at hl
      simp only [List.length_drop] at hl
      unfold stL
      by_cases hA : b = 36 ∧ s[i + 1]? = some 10 ∧ cut = false
      · rw [if_pos hA, if_pos hA]
        by_cases hD : i + 2 < s.length
        · rw [if_pos hD]; exact ⟨_, rfl, rfl⟩
        · rw [if_neg hD]; exact ⟨_, rfl, rfl⟩
      · rw [if_neg hA, if_neg hA]
        by_cases hB : b = 92 ∧ s[i + 1]? = some 10
        · have : i + 1 < s.length := lt_of_getElem? hB.2
          rw [if_pos hB, if_pos hB]
          by_cases hC : cut = true ∨ (ls out).length = 0
          · rw [if_pos hC, if_pos hC]; exact ⟨_, rfl, rfl⟩
          · rw [if_neg hC, if_neg hC]
            match n, hn with
            | 0, hn => omega
            | n + 1, hn => exact u2829 s hs n _ _ _ (by omega) (by omega) (by omega)
        · rw [if_neg hB, if_neg hB]
          by_cases hk : (one1 false (s.drop i)).2.2 = true
          · rw [if_pos hk, if_pos hk]
            have h1 := hl.2 hk
            match n, hn with
            | 0, hn => omega
            | n + 1, hn => exact u2829 s hs n _ _ _ (by omega) (by omega) (by rw [ls_sapp]; simp; omega)
          · rw [if_neg hk, if_neg hk]; exact ⟨_, rfl, rfl⟩
theorem f2829 (s : Str) (hs : s.length ≤ 10000000000) : ∃ r, F28 s = some r ∧ F29 s = some r := by
  unfold F28 F29
  exact u2829 s hs s.length 0 false none (by omega) (by omega) (by simp [ls])
theorem pureLists (s t : Str) (w : Int) (hw : w ≤ 9223372036854775807) (hs : s.length ≤ 1000000000) (ht : t.length ≤ 1000000000) : F8 s w t = some true := by
  obtain ⟨r, h1, h2⟩ := f2829 t (by omega)
  unfold F8
  rw [f26 s w hw (by omega), sm, f27 s w hw (by omega), sm, h1, sm, h2, sm, f13, sm, if_pos rfl, if_pos (by simp), if_pos (by simp), if_pos (by simp), if_pos (by simp)]
  simp
end Go.Proofs.YtllhdbdbdblimaaDoor
