/-
  Lines: quoted texts and listings read, in both ways.
-/
import Derived.Test.YtllhdbdbdblimaaDoorLinP7
namespace Go.Proofs.YtllhdbdbdblimaaDoor
open Go AW
set_option linter.unusedVariables false
set_option linter.unusedSimpArgs false
theorem esc_some {c : UInt8} {r : Str} {x : Int} (h : let2 c = some x) : esc (c :: r) = (x, 1, true) := by simp [esc, h]
theorem esc_none {c : UInt8} {r : Str} (h : let2 c = none) : esc (c :: r) = dg 0 0 (c :: r) := by simp [esc, h]
theorem esc_len : ∀ r : Str, (esc r).2.1 ≤ r.length
  | [] => by simp [esc]
  | c :: r => by
    cases h : let2 c with
    | some x => rw [esc_some h]; simp
    | none =>
      rw [esc_none h]
      have := dg_k (c :: r) 0 0 (by omega)
      omega
theorem one1_len (q : Bool) (b : UInt8) (r : Str) : (one1 q (b :: r)).2.1 ≤ r.length + 1 ∧ ((one1 q (b :: r)).2.2 = true → 1 ≤ (one1 q (b :: r)).2.1) := by
  rw [one1_cons]
  split
  · split
    · rename_i h
      cases r with
      | nil => simp at h
      | cons c r => simp
    · have := esc_len r
      simp only
      exact ⟨by omega, fun _ => by omega⟩
  · split <;> simp
theorem out3_ok {i : Nat} {e : Int × Nat × Bool} (h : e.2.2 = true) : out3 i e = (e.1, ((i + e.2.1 : Nat) : Int), -1) := by simp [out3, h]
theorem out3_bad {i : Nat} {e : Int × Nat × Bool} (h : e.2.2 = false) : out3 i e = (0, ((i + e.2.1 : Nat) : Int), ((i + e.2.1 : Nat) : Int)) := by simp [out3, h]

/-! ### Quoted texts -/
/-- One step of reading a quoted text. -/
theorem u22 (s : Str) (i : Nat) (out : Sl Int) (hi : i < s.length) (hs : s.length ≤ 10000000000) (ho : (ls out).length ≤ i) {b : UInt8} (hb : s[i]? = some b) :
    G22 (.p2 s (i : Int) out) = if b = 34 then some (toBs (ls out), ((i + 1 : Nat) : Int), 0, 0) else if (one1 true (s.drop i)).2.2 = true then G22 (.p2 s ((i + (one1 true (s.drop i)).2.1 : Nat) : Int) (sapp out [(one1 true (s.drop i)).1])) else some ([], 0, 10, ((i + (one1 true (s.drop i)).2.1 : Nat) : Int)) := by
  have e1 : IntKind.wrap .i64 ((i : Int) + 1) = ((i + 1 : Nat) : Int) := wn1 i (by omega)
  rw [G22.eq_2, dti (by omega), ixs hb, sm, b34, e1]
  by_cases h : b = 34
  · rw [dti h, if_pos h]
  · rw [dfi h, if_neg h, f43 s i true hi hs, sm]
    by_cases hk : (one1 true (s.drop i)).2.2 = true
    · rw [out3_ok hk, if_pos hk, if_neg (by simp), if_pos (by simp [ls] at ho ⊢; omega)]
      rfl
    · have hk' : (one1 true (s.drop i)).2.2 = false := by simpa using hk
      rw [out3_bad hk', if_neg hk]
      simp only []
      rw [dti (by omega)]
theorem u23 (s : Str) (i : Nat) (out : Sl Int) (hi : i < s.length) (hs : s.length ≤ 10000000000) (ho : (ls out).length ≤ i) {b : UInt8} (hb : s[i]? = some b) :
    G23 (.p2 s (i : Int) out) = if b = 34 then some (toBs (ls out), ((i + 1 : Nat) : Int), 0, 0) else if (one1 true (s.drop i)).2.2 = true then G23 (.p2 s ((i + (one1 true (s.drop i)).2.1 : Nat) : Int) (sapp out [(one1 true (s.drop i)).1])) else some ([], 0, 10, ((i + (one1 true (s.drop i)).2.1 : Nat) : Int)) := by
  have e1 : IntKind.wrap .i64 ((i : Int) + 1) = ((i + 1 : Nat) : Int) := wn1 i (by omega)
  have e2 : IntKind.wrap .i64 ((i : Int) + 2) = ((i + 2 : Nat) : Int) := by rw [wi _ (by omega) (by omega)]; omega
  have hbl := b.toNat_lt
  rw [G23.eq_2, dti (by omega), ixs hb, sm, b34, e1, b92, e2]
  by_cases h : b = 34
  · rw [dti h, if_pos h]
  · rw [dfi h, if_neg h, drop_cons hb, one1_cons]
    by_cases h92 : b = 92
    · have p3 : G23 (.p3 s (i : Int) (b.toNat : Int) out) = if (esc (s.drop (i + 1))).2.2 = true then G23 (.p2 s ((i + ((esc (s.drop (i + 1))).2.1 + 1) : Nat) : Int) (sapp out [(esc (s.drop (i + 1))).1])) else some ([], 0, 10, ((i + ((esc (s.drop (i + 1))).2.1 + 1) : Nat) : Int)) := by
        rw [G23.eq_3, b92, dti h92, e1, f44 s (i + 1) (by omega) hs, sm]
        by_cases hk : (esc (s.drop (i + 1))).2.2 = true
        · simp only [out2, hk, if_true]
          rw [if_neg (by simp), if_pos (by simp [ls] at ho ⊢; omega), show i + 1 + (esc (s.drop (i + 1))).2.1 = i + ((esc (s.drop (i + 1))).2.1 + 1) by omega]
          rfl
        · simp only [out2, hk, if_false]
          rw [if_pos (by simp), show i + 1 + (esc (s.drop (i + 1))).2.1 = i + ((esc (s.drop (i + 1))).2.1 + 1) by omega]
          rfl
      rw [dti h92, if_pos h92]
      by_cases hend : ((i + 1 : Nat) : Int) < (s.length : Int)
      · obtain ⟨c, hc⟩ := get_ex s (i := i + 1) (by omega)
        rw [dti hend, ixs hc, sm, b34]
        by_cases hc34 : c = 34
        · have hP : true = true ∧ (s.drop (i + 1)).head? = some 34 := ⟨rfl, by rw [drop_cons hc, hc34]; rfl⟩
          rw [dti hc34, if_pos hP, if_pos (by simp [ls] at ho ⊢; omega)]
          rfl
        · have hP : ¬ (true = true ∧ (s.drop (i + 1)).head? = some 34) := fun hx => hc34 (by have := hx.2; rw [drop_cons hc] at this; simpa using this)
          rw [dfi hc34, if_neg hP, p3]
      · have hP : ¬ (true = true ∧ (s.drop (i + 1)).head? = some 34) := fun hx => by
          have := hx.2
          rw [List.drop_of_length_le (by omega)] at this
          simp at this
        rw [dfi hend, if_neg hP, p3]
    · rw [dfi h92, if_neg h92, G23.eq_3, b92, dfi h92, e1]
      by_cases h32 : b.toNat < 32
      · have hP : b.toNat < 32 ∨ 127 ≤ b.toNat ∨ (true = true ∧ b = 34) := .inl h32
        rw [dfi (by omega), G23.eq_4, if_pos hP]
        simp
      · by_cases h127 : 127 ≤ b.toNat
        · have hP : b.toNat < 32 ∨ 127 ≤ b.toNat ∨ (true = true ∧ b = 34) := .inr (.inl h127)
          rw [dti (by omega), dfi (by omega), G23.eq_4, if_pos hP]
          simp
        · have hP : ¬ (b.toNat < 32 ∨ 127 ≤ b.toNat ∨ (true = true ∧ b = 34)) := fun hx => by rcases hx with hx | hx | hx; exact h32 hx; exact h127 hx; exact h hx.2
          rw [dti (by omega), dti (by omega), if_neg hP, if_pos (by simp [ls] at ho ⊢; omega)]
          rfl
theorem u2223 (s : Str) (hs : s.length ≤ 10000000000) : ∀ (n i : Nat) (out : Sl Int), s.length ≤ n + i → i ≤ s.length → (ls out).length ≤ i → ∃ r, G22 (.p2 s (i : Int) out) = some r ∧ G23 (.p2 s (i : Int) out) = some r
  | n, i, out, hn, hi, ho => by
    by_cases he : i = s.length
    · refine ⟨_, by rw [G22.eq_2, dfi (by omega)], by rw [G23.eq_2, dfi (by omega)]⟩
    · obtain ⟨b, hb⟩ := get_ex s (i := i) (by omega)
      rw [u22 s i out (by omega) hs ho hb, u23 s i out (by omega) hs ho hb]
      have hl := one1_len true b (s.drop (i + 1))
      rw [← drop_cons hb] at hl
      simp only [List.length_drop] at hl
      by_cases h : b = 34
      · rw [if_pos h, if_pos h]; exact ⟨_, rfl, rfl⟩
      · rw [if_neg h, if_neg h]
        by_cases hk : (one1 true (s.drop i)).2.2 = true
        · rw [if_pos hk, if_pos hk]
          have h1 := hl.2 hk
          match n, hn with
          | 0, hn => omega
          | n + 1, hn => exact u2223 s hs n _ _ (by omega) (by omega) (by rw [ls_sapp]; simp; omega)
        · rw [if_neg hk, if_neg hk]; exact ⟨_, rfl, rfl⟩
theorem f2223 (s : Str) (hs : s.length ≤ 10000000000) : ∃ r, F22 s = some r ∧ F23 s = some r := by
  unfold F22 F23
  cases s with
  | nil => exact ⟨_, by rw [if_pos (by rfl), G22.eq_1], by rw [if_pos (by rfl), G23.eq_1]⟩
  | cons b s =>
    have x0 : ix (b :: s) 0 = some b := rfl
    have ne : (((b :: s).length : Int) == 0) = false := by simp; omega
    rw [if_neg (by simp), ne, fi_ rfl, x0, sm, sm]
    by_cases h : b = 34
    · rw [if_neg (by simp [h]), if_neg (by simp [h])]
      exact u2223 (b :: s) hs (b :: s).length 1 none (by omega) (by simp) (by simp [ls])
    · have : ¬ ((b.toNat : Int) = 34) := fun e => h (UInt8.toNat_inj.1 (by simpa using by omega))
      rw [if_pos (by simpa using this), if_pos (by simpa using this), G22.eq_1, G23.eq_1]
      exact ⟨_, rfl, rfl⟩
theorem pureQuotes (s t : Str) (hs : s.length ≤ 1000000000) (ht : t.length ≤ 1000000000) : F7 s t = some true := by
  obtain ⟨r, h1, h2⟩ := f2223 t (by omega)
  unfold F7
  rw [h1, sm, h2, sm, f13, sm, if_pos rfl, f24 s (by omega), sm, f25 s (by omega), sm, if_pos (by simp), if_pos (by simp), if_pos (by simp), if_pos (by simp)]
  simp
end Go.Proofs.YtllhdbdbdblimaaDoor
