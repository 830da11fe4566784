/-
  Lines: one told byte read, in both ways.
-/
import Derived.Test.YtllhdbdbdblimaaDoorLinP6
namespace Go.Proofs.YtllhdbdbdblimaaDoor
open Go AW
set_option linter.unusedVariables false
set_option linter.unusedSimpArgs false
def P8 : Str := [92, 97, 98, 102, 110, 114, 116, 118]
def M8 : List Int := [92, 7, 8, 12, 10, 13, 9, 11]
def fz : Str → List Int → UInt8 → Option Int
  | p :: ps, m :: ms, c => if c = p then some m else fz ps ms c
  | _, _, _ => none
/-- What a letter behind a backslash means. -/
def let2 (c : UInt8) : Option Int := fz P8 M8 c
theorem let2_fl (c : UInt8) : c ≠ 92 → fl g1.l (c.toNat : Int) 0 = let2 c := by
  have : ∀ n : Fin 256, UInt8.ofNat n.val ≠ 92 → fl g1.l ((UInt8.ofNat n.val).toNat : Int) 0 = let2 (UInt8.ofNat n.val) := by decide +kernel
  simpa using this ⟨c.toNat, c.toNat_lt⟩
theorem let2_rng (c : UInt8) : ∀ x, let2 c = some x → 0 ≤ x ∧ x < 256 := by
  have : ∀ n : Fin 256, ((let2 (UInt8.ofNat n.val)).all fun x => decide (0 ≤ x ∧ x < 256)) = true := by decide +kernel
  have h := this ⟨c.toNat, c.toNat_lt⟩
  simp only [UInt8.ofNat_toNat] at h
  intro x hx
  rw [hx] at h
  simpa using h
/-- Octal digits: so many are read, and what they say so far. -/
def dg : Nat → Nat → Str → Int × Nat × Bool
  | n, k, [] => if 3 ≤ k then (IntKind.wrap .u8 n, 3, true) else (0, k, false)
  | n, k, c :: r => if 3 ≤ k then (IntKind.wrap .u8 n, 3, true) else if c.toNat < 48 ∨ 55 < c.toNat ∨ gs (8 * n + (c.toNat - 48)) k = false then (0, k, false) else dg (8 * n + (c.toNat - 48)) (k + 1) r
/-- What stands behind a backslash: the byte, how much is read; or the fault's place. -/
def esc : Str → Int × Nat × Bool
  | [] => (0, 0, false)
  | c :: r => match let2 c with
    | some x => (x, 1, true)
    | none => dg 0 0 (c :: r)
/-- A told byte. -/
def one1 (q : Bool) : Str → Int × Nat × Bool
  | [] => (0, 0, false)
  | b :: r => if b = 92 then (if q = true ∧ r.head? = some 34 then (34, 2, true) else ((esc r).1, (esc r).2.1 + 1, (esc r).2.2)) else if b.toNat < 32 ∨ 127 ≤ b.toNat ∨ (q = true ∧ b = 34) then (0, 0, false) else ((b.toNat : Int), 1, true)
theorem one1_cons (q : Bool) (b : UInt8) (r : Str) : one1 q (b :: r) = if b = 92 then (if q = true ∧ r.head? = some 34 then (34, 2, true) else ((esc r).1, (esc r).2.1 + 1, (esc r).2.2)) else if b.toNat < 32 ∨ 127 ≤ b.toNat ∨ (q = true ∧ b = 34) then (0, 0, false) else ((b.toNat : Int), 1, true) := rfl
def out3 (i : Nat) (e : Int × Nat × Bool) : Int × Int × Int := if e.2.2 then (e.1, ((i + e.2.1 : Nat) : Int), -1) else (0, ((i + e.2.1 : Nat) : Int), ((i + e.2.1 : Nat) : Int))
def out2 (i : Nat) (e : Int × Nat × Bool) : Int × Int × Bool := if e.2.2 then (e.1, ((i + e.2.1 : Nat) : Int), true) else (0, ((i + e.2.1 : Nat) : Int), false)
theorem dg_k : ∀ (r : Str) (n k : Nat), k ≤ 3 → (dg n k r).2.1 ≤ 3 ∧ k ≤ (dg n k r).2.1 ∧ ((dg n k r).2.2 = true → (dg n k r).2.1 = 3) ∧ (dg n k r).2.1 ≤ k + r.length
  | [], n, k, hk => by unfold dg; split <;> simp <;> omega
  | c :: r, n, k, hk => by
    unfold dg
    split
    · simp; omega
    · split
      · simp; omega
      · have := dg_k r (8 * n + (c.toNat - 48)) (k + 1) (by omega)
        simp only [List.length_cons]
        exact ⟨this.1, by omega, this.2.2.1, by omega⟩
theorem g43p6 (s : Str) (i : Nat) (hs : s.length ≤ 10000000000) : ∀ (m k n : Nat), m + k = 3 → n < 8 ^ k → i + k ≤ s.length → G43 (.p6 s (i : Int) (n : Int) (k : Int)) = some (out3 i (dg n k (s.drop (i + k))))
  | 0, k, n, hm, hn, hi => by
    have hk : k = 3 := by omega
    subst hk
    have e3 : IntKind.wrap .i64 ((i : Int) + 3) = ((i + 3 : Nat) : Int) := by rw [wi _ (by omega) (by omega)]; omega
    rw [G43.eq_6, dfi (by omega), e3]
    cases s.drop (i + 3) <;> simp [dg, out3]
  | m + 1, k, n, hm, hn, hi => by
    have hn2 : n < 64 := Nat.lt_of_lt_of_le hn (by
      have : k ≤ 2 := by omega
      match k, this with
      | 0, _ => decide
      | 1, _ => decide
      | 2, _ => decide)
    have ek : IntKind.wrap .i64 ((i : Int) + (k : Int)) = ((i + k : Nat) : Int) := by rw [wi _ (by omega) (by omega)]; omega
    have ek1 : IntKind.wrap .i64 ((k : Int) + 1) = ((k + 1 : Nat) : Int) := wn1 k (by omega)
    rw [G43.eq_6, dti (by omega), ek]
    by_cases he : i + k = s.length
    · have hd : s.drop (i + k) = [] := List.drop_of_length_le (by omega)
      rw [hd, if_pos (by simpa using by omega)]
      simp [dg, out3, show ¬ 3 ≤ k by omega]
    · obtain ⟨c, hc⟩ := get_ex s (i := i + k) (by omega)
      have hcl := c.toNat_lt
      have ec : IntKind.wrap .i64 ((IntKind.wrap .i64 (c.toNat : Int)) - 48) = (c.toNat : Int) - 48 := by rw [wn _ (by omega), wi _ (by omega) (by omega)]
      have hk3 : ¬ 3 ≤ k := by omega
      rw [if_neg (by simpa using by omega), ixs hc, sm, ec, drop_cons hc]
      unfold dg
      rw [if_neg hk3]
      by_cases h1 : c.toNat < 48
      · have hP : c.toNat < 48 ∨ 55 < c.toNat ∨ gs (8 * n + (c.toNat - 48)) k = false := .inl h1
        rw [dti (by omega), G43.eq_7, ek, if_pos hP]; simp [out3]
      · by_cases h2 : 55 < c.toNat
        · have hP : c.toNat < 48 ∨ 55 < c.toNat ∨ gs (8 * n + (c.toNat - 48)) k = false := .inr (.inl h2)
          rw [dfi (by omega), dti (by omega), G43.eq_7, ek, if_pos hP]; simp [out3]
        · have ed : (c.toNat : Int) - 48 = ((c.toNat - 48 : Nat) : Int) := by omega
          have e8 : IntKind.wrap .i64 (8 * (n : Int)) = ((8 * n : Nat) : Int) := by rw [wi _ (by omega) (by omega)]; omega
          have e9 : IntKind.wrap .i64 (((8 * n : Nat) : Int) + ((c.toNat - 48 : Nat) : Int)) = ((8 * n + (c.toNat - 48) : Nat) : Int) := by rw [wi _ (by omega) (by omega)]; omega
          rw [dfi (by omega), dfi (by omega), ed, e8, e9, f56 _ _ (by omega) (by omega), sm, ek1]
          by_cases hg : gs (8 * n + (c.toNat - 48)) k = true
          · have hP : ¬ (c.toNat < 48 ∨ 55 < c.toNat ∨ gs (8 * n + (c.toNat - 48)) k = false) := by simp [hg]; omega
            rw [if_neg (by simp [hg]), if_neg hP, g43p6 s i hs m (k + 1) _ (by omega) (by rw [Nat.pow_succ]; omega) (by omega)]
            rw [show i + (k + 1) = i + k + 1 by omega]
          · have hg' : gs (8 * n + (c.toNat - 48)) k = false := by simpa using hg
            have hP : c.toNat < 48 ∨ 55 < c.toNat ∨ gs (8 * n + (c.toNat - 48)) k = false := .inr (.inr hg')
            rw [if_pos (by simp [hg']), if_pos hP]; simp [out3]
theorem g44p2 (s : Str) (i : Nat) (hs : s.length ≤ 10000000000) : ∀ (m k n : Nat), m + k = 3 → n < 8 ^ k → i + k ≤ s.length → G44 (.p2 s (i : Int) (n : Int) (k : Int)) = some (out2 i (dg n k (s.drop (i + k))))
  | 0, k, n, hm, hn, hi => by
    have hk : k = 3 := by omega
    subst hk
    have e3 : IntKind.wrap .i64 ((i : Int) + 3) = ((i + 3 : Nat) : Int) := by rw [wi _ (by omega) (by omega)]; omega
    rw [G44.eq_2, dfi (by omega), e3]
    cases s.drop (i + 3) <;> simp [dg, out2]
  | m + 1, k, n, hm, hn, hi => by
    have hn2 : n < 64 := Nat.lt_of_lt_of_le hn (by
      have : k ≤ 2 := by omega
      match k, this with
      | 0, _ => decide
      | 1, _ => decide
      | 2, _ => decide)
    have ek : IntKind.wrap .i64 ((i : Int) + (k : Int)) = ((i + k : Nat) : Int) := by rw [wi _ (by omega) (by omega)]; omega
    have ek1 : IntKind.wrap .i64 ((k : Int) + 1) = ((k + 1 : Nat) : Int) := wn1 k (by omega)
    rw [G44.eq_2, dti (by omega), ek]
    by_cases he : i + k = s.length
    · have hd : s.drop (i + k) = [] := List.drop_of_length_le (by omega)
      rw [hd, dti (by omega)]
      simp [dg, out2, show ¬ 3 ≤ k by omega, he]
    · obtain ⟨c, hc⟩ := get_ex s (i := i + k) (by omega)
      have hcl := c.toNat_lt
      have hk3 : ¬ 3 ≤ k := by omega
      rw [dfi (by omega), ixs hc, sm, drop_cons hc]
      unfold dg
      rw [if_neg hk3]
      by_cases h1 : c.toNat < 48
      · have hP : c.toNat < 48 ∨ 55 < c.toNat ∨ gs (8 * n + (c.toNat - 48)) k = false := .inl h1
        rw [dti (by omega), G44.eq_3, ek, if_pos hP]; simp [out2]
      · by_cases h2 : 55 < c.toNat
        · have hP : c.toNat < 48 ∨ 55 < c.toNat ∨ gs (8 * n + (c.toNat - 48)) k = false := .inr (.inl h2)
          rw [dfi (by omega), dti (by omega), G44.eq_3, ek, if_pos hP]; simp [out2]
        · have ed : (c.toNat : Int) = ((c.toNat - 48 + 48 : Nat) : Int) := by omega
          have e0 : IntKind.wrap .i64 (IntKind.wrap .u8 ((c.toNat : Int) - 48)) = ((c.toNat - 48 : Nat) : Int) := by
            rw [show (c.toNat : Int) - 48 = ((c.toNat - 48 : Nat) : Int) by omega]
            have : IntKind.wrap .u8 ((c.toNat - 48 : Nat) : Int) = ((c.toNat - 48 : Nat) : Int) := by
              simp only [IntKind.wrap, IntKind.bits, IntKind.signed, Bool.false_and, Bool.false_eq_true, if_false]; omega
            rw [this, wn _ (by omega)]
          have e8 : IntKind.wrap .i64 (8 * (n : Int)) = ((8 * n : Nat) : Int) := by rw [wi _ (by omega) (by omega)]; omega
          have e9 : IntKind.wrap .i64 (((8 * n : Nat) : Int) + ((c.toNat - 48 : Nat) : Int)) = ((8 * n + (c.toNat - 48) : Nat) : Int) := by rw [wi _ (by omega) (by omega)]; omega
          have hf := f57 n (c.toNat - 48) k (by omega) (by omega) (by omega)
          rw [← ed] at hf
          rw [dfi (by omega), dfi (by omega), hf, sm, e0, e8, e9, ek1]
          by_cases hg : gs (8 * n + (c.toNat - 48)) k = true
          · have hP : ¬ (c.toNat < 48 ∨ 55 < c.toNat ∨ gs (8 * n + (c.toNat - 48)) k = false) := by simp [hg]; omega
            rw [if_neg (by simp [hg]), if_neg hP, g44p2 s i hs m (k + 1) _ (by omega) (by rw [Nat.pow_succ]; omega) (by omega)]
            rw [show i + (k + 1) = i + k + 1 by omega]
          · have hg' : gs (8 * n + (c.toNat - 48)) k = false := by simpa using hg
            have hP : c.toNat < 48 ∨ 55 < c.toNat ∨ gs (8 * n + (c.toNat - 48)) k = false := .inr (.inr hg')
            rw [if_pos (by simp [hg']), G44.eq_3, ek, if_pos hP]; simp [out2]
theorem g44p1 (s : Str) (i : Nat) (c : UInt8) (hc : s[i]? = some c) (hs : s.length ≤ 10000000000) : ∀ (m k : Nat), m + k = 8 → G44 (.p1 s (i : Int) P8 (some M8) (k : Int)) = match fz (P8.drop k) (M8.drop k) c with
    | some x => some (x, ((i + 1 : Nat) : Int), true)
    | none => G44 (.p2 s (i : Int) 0 0)
  | 0, k, hm => by
    have : k = 8 := by omega
    subst this
    rw [G44.eq_1, dfi (by decide)]
    rfl
  | m + 1, k, hm => by
    have hp8 : P8.length = 8 := rfl
    have hm8 : M8.length = 8 := rfl
    obtain ⟨p, hp⟩ := get_ex P8 (i := k) (by omega)
    obtain ⟨x, hx⟩ := get_ex M8 (i := k) (by omega)
    have hil := lt_of_getElem? hc
    have e1 : IntKind.wrap .i64 ((i : Int) + 1) = ((i + 1 : Nat) : Int) := wn1 i (by omega)
    have ek1 : IntKind.wrap .i64 ((k : Int) + 1) = ((k + 1 : Nat) : Int) := wn1 k (by omega)
    rw [G44.eq_1, dti (by rw [hp8]; omega), ixs hc, sm, ixs hp, sm, drop_cons hp, drop_cons hx, ek1, e1]
    unfold fz
    by_cases h : c = p
    · rw [if_pos (by simp [h]), if_pos h, show ls (some M8) = M8 from rfl, ixs hx, sm]
    · have h2 : ¬ ((c.toNat : Int) = (p.toNat : Int)) := fun e => h (UInt8.toNat_inj.1 (by omega))
      rw [if_neg (by simpa using h2), if_neg h, g44p1 s i c hc hs m (k + 1) (by omega)]
theorem f44 (s : Str) (i : Nat) (hi : i ≤ s.length) (hs : s.length ≤ 10000000000) : F44 s (i : Int) = some (out2 i (esc (s.drop i))) := by
  unfold F44
  by_cases h : i = s.length
  · rw [dti (by omega), List.drop_of_length_le (by omega)]
    simp [esc, out2, h]
  · obtain ⟨c, hc⟩ := get_ex s (i := i) (by omega)
    have hp := g44p1 s i c hc hs 8 0 rfl
    have h2 := g44p2 s i hs 3 0 0 rfl (by decide) (by omega)
    rw [dfi (by omega), drop_cons hc]
    refine hp.trans ?_
    unfold esc let2
    simp only [List.drop_zero]
    cases fz P8 M8 c with
    | some x => simp [out2]
    | none =>
      refine h2.trans ?_
      rw [Nat.add_zero, drop_cons hc]
theorem f43 (s : Str) (i : Nat) (q : Bool) (hi : i < s.length) (hs : s.length ≤ 10000000000) : F43 s (i : Int) q = some (out3 i (one1 q (s.drop i))) := by
  obtain ⟨b, hb⟩ := get_ex s hi
  have hbl := b.toNat_lt
  have e1 : IntKind.wrap .i64 ((i : Int) + 1) = ((i + 1 : Nat) : Int) := wn1 i (by omega)
  have e2 : IntKind.wrap .i64 (((i + 1 : Nat) : Int) + 1) = ((i + 2 : Nat) : Int) := by rw [wn1 _ (by omega)]
  unfold F43
  rw [ixs hb, sm, drop_cons hb, e1, one1_cons]
  by_cases h : b = 92
  · subst h
    rw [if_neg (by decide), if_pos rfl]
    by_cases he : i + 1 = s.length
    · rw [if_pos (by simpa using by omega), List.drop_of_length_le (by omega)]
      simp [esc, out3]
    · obtain ⟨c, hc⟩ := get_ex s (i := i + 1) (by omega)
      have hcl := c.toNat_lt
      rw [if_neg (by simpa using by omega), ixs hc, sm, drop_cons hc]
      have p4 : c ≠ 92 → G43 (.p4 s ((i + 1 : Nat) : Int) (c.toNat : Int)) = some (out3 i ((esc (c :: s.drop (i + 1 + 1))).1, (esc (c :: s.drop (i + 1 + 1))).2.1 + 1, (esc (c :: s.drop (i + 1 + 1))).2.2)) := by
        intro hne
        have h5 := g43p5 s ((i + 1 : Nat) : Int) (c.toNat : Int) 14 0 rfl
        rw [G43.eq_4]
        refine h5.trans ?_
        rw [List.drop_zero, show ((0 : Nat) : Int) = 0 from rfl, let2_fl c hne]
        cases hl : let2 c with
        | some x =>
          have hE : esc (c :: s.drop (i + 1 + 1)) = (x, 1, true) := by simp [esc, hl]
          rw [hE]
          obtain ⟨r1, r2⟩ := let2_rng c x hl
          have : IntKind.wrap .u8 x = x := by
            simp only [IntKind.wrap, IntKind.bits, IntKind.signed, Bool.false_and, Bool.false_eq_true, if_false]; omega
          simp only []
          rw [this, e2]
          simp [out3]
        | none =>
          have h6 := g43p6 s (i + 1) hs 3 0 0 rfl (by decide) (by omega)
          have hE : esc (c :: s.drop (i + 1 + 1)) = dg 0 0 (c :: s.drop (i + 1 + 1)) := by simp [esc, hl]
          rw [hE]
          refine h6.trans ?_
          rw [Nat.add_zero, drop_cons hc]
          simp only [out3]
          split <;> simp [Nat.add_comm, Nat.add_left_comm, Nat.add_assoc]
      have l92 : let2 92 = some 92 := by decide
      rw [b92, b34]
      by_cases h92 : c = 92
      · subst h92
        rw [dti rfl, G43.eq_3, e2]
        simp [esc, l92, out3]
      · rw [dfi h92]
        by_cases hq : q = true
        · rw [if_pos hq]
          by_cases h34 : c = 34
          · subst h34
            rw [dti rfl, G43.eq_3, e2, if_pos ⟨hq, rfl⟩]
            simp [out3]
          · rw [dfi h34, p4 h92, if_neg (by simp [h34])]
        · rw [if_neg hq, p4 h92, if_neg (by simp [hq])]
  · have h2 : ¬ ((b.toNat : Int) = 92) := fun e => h (UInt8.toNat_inj.1 (by simpa using by omega))
    rw [if_pos (by simpa using h2), if_neg h, b34]
    by_cases h32 : b.toNat < 32
    · have hP : b.toNat < 32 ∨ 127 ≤ b.toNat ∨ (q = true ∧ b = 34) := .inl h32
      rw [dti (by omega), G43.eq_1, if_pos hP]; simp [out3]
    · by_cases h127 : 127 ≤ b.toNat
      · have hP : b.toNat < 32 ∨ 127 ≤ b.toNat ∨ (q = true ∧ b = 34) := .inr (.inl h127)
        rw [dfi (by omega), dti (by omega), G43.eq_1, if_pos hP]; simp [out3]
      · rw [dfi (by omega), dfi (by omega)]
        by_cases hq : q = true
        · rw [if_pos hq]
          by_cases h34 : b = 34
          · have hP : b.toNat < 32 ∨ 127 ≤ b.toNat ∨ (q = true ∧ b = 34) := .inr (.inr ⟨hq, h34⟩)
            rw [dti h34, G43.eq_1, if_pos hP]; simp [out3]
          · have hP : ¬ (b.toNat < 32 ∨ 127 ≤ b.toNat ∨ (q = true ∧ b = 34)) := fun h => by rcases h with h | h | h; exact h32 h; exact h127 h; exact h34 h.2
            rw [dfi h34, G43.eq_2, e1, if_neg hP]; simp [out3]
        · have hP : ¬ (b.toNat < 32 ∨ 127 ≤ b.toNat ∨ (q = true ∧ b = 34)) := fun h => by rcases h with h | h | h; exact h32 h; exact h127 h; exact hq h.1
          rw [if_neg hq, G43.eq_2, e1, if_neg hP]; simp [out3]
end Go.Proofs.YtllhdbdbdblimaaDoor
