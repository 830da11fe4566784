/-
  Sets of bytes: reading does not look past the closing sign.
-/
import Derived.Test.YtfjdegohjnejkaaSetQ4
namespace Go.Proofs.Ytfjdegohjnejkaa
open Go AW
set_option linter.unusedVariables false
noncomputable section

structure Ag (s s' : Str) (P : Nat) : Prop where
  hl : s.length ≤ 1000000000000000
  hl' : s'.length ≤ 1000000000000000
  lt : P < s.length
  lt' : P < s'.length
  eq : ∀ k, k ≤ P → s'[k]? = s[k]?
  cl : s[P]? = some 93

theorem ag_ix {s s' : Str} {P : Nat} (h : Ag s s' P) {k : Nat} (hk : k ≤ P) : ix s' (k : Int) = ix s (k : Int) := by
  rw [ix_nat, ix_nat, h.eq k hk]
theorem ag_cut {s s' : Str} {P : Nat} (h : Ag s s' P) {k : Nat} (hk : k ≤ P + 1) : s'.take k = s.take k := by
  apply List.ext_getElem?
  intro j
  rw [List.getElem?_take, List.getElem?_take]
  split
  · exact h.eq j (by omega)
  · rfl
theorem ag_45 {s s' : Str} {P : Nat} (h : Ag s s' P) {i : Nat} (hi : i + 1 ≤ P) : F45 s' (i : Int) = F45 s (i : Int) := by
  have := h.lt; have := h.lt'; have := h.hl
  have g : G45 (.p1 s' (i : Int)) = G45 (.p1 s (i : Int)) := by rw [G45, G45, wk1 i (by omega), ag_ix h hi]
  unfold F45
  rw [wk1 i (by omega), dt (by omega), dt (by omega), ag_ix h (k := i) (by omega), ag_ix h hi, g]
theorem g46_mono (s : Str) (hl : s.length ≤ 1000000000000000) (i : Nat) (t4 : Arr 4 Int) : ∀ (m k : Nat) (A : Arr 4 Int) (n : Int), s.length ≤ k + m → k ≤ s.length → G46 (.p1 s (i : Int) (k : Int) t4) = some (A, n, true) → ((k + 2 : Nat) : Int) ≤ n
  | 0, k, A, n, hm, hle, h => by
    rw [G46.eq_1, wk1 k (by omega), df (by omega)] at h
    cases h
  | m + 1, k, A, n, hm, hle, h => by
    by_cases hlt : k + 1 < s.length
    · obtain ⟨c, hc, hc'⟩ := at_lt (s := s) (k := k) (by omega)
      obtain ⟨d, hd, hd'⟩ := at_lt hlt
      rw [G46.eq_1, wk1 k (by omega), dt (by omega), hc', bs, hd', bs] at h
      have rcs : G46 (.p1 s (i : Int) ((k + 1 : Nat) : Int) t4) = some (A, n, true) → ((k + 2 : Nat) : Int) ≤ n := fun h' => by
        have := g46_mono s hl i t4 m (k + 1) A n (by omega) (by omega) h'
        omega
      by_cases e : ((c.toNat : Int) == 58) = true
      · rw [if_pos e] at h
        by_cases e' : ((d.toNat : Int) == 93) = true
        · rw [if_pos e'] at h
          obtain ⟨w, _, h⟩ := bind_some h
          obtain ⟨q, _, h⟩ := bind_some h
          have := congrArg (fun x => x.2.1) (Option.some.inj h)
          simp only [] at this
          rw [wk2 k (by omega)] at this
          omega
        · rw [if_neg e'] at h; exact rcs h
      · rw [if_neg e] at h; exact rcs h
    · rw [G46.eq_1, wk1 k (by omega), df (by omega)] at h
      cases h
theorem ag_46 {s s' : Str} {P : Nat} (h : Ag s s' P) (i : Nat) (t4 : Arr 4 Int) : ∀ (m k : Nat) (A : Arr 4 Int) (n : Nat), s.length ≤ k + m → i + 2 ≤ k → k ≤ s.length → G46 (.p1 s (i : Int) (k : Int) t4) = some (A, (n : Int), true) → n ≤ P → G46 (.p1 s' (i : Int) (k : Int) t4) = some (A, (n : Int), true)
  | 0, k, A, n, hm, hk, hle, hg, hn => by
    have := h.hl
    rw [G46.eq_1, wk1 k (by omega), df (by omega)] at hg
    cases hg
  | m + 1, k, A, n, hm, hk, hle, hg, hn => by
    have hl := h.hl
    have hl' := h.hl'
    have lt := h.lt
    have lt' := h.lt'
    have mono := g46_mono s hl i t4 (m + 1) k A n hm hle hg
    have hlt : k + 1 < s.length := by omega
    obtain ⟨c, hc, hc'⟩ := at_lt (s := s) (k := k) (by omega)
    obtain ⟨d, hd, hd'⟩ := at_lt hlt
    rw [G46.eq_1, wk1 k (by omega), dt (by omega), hc', bs, hd', bs] at hg
    rw [G46.eq_1, wk1 k (by omega), dt (by omega), ag_ix h (by omega), ag_ix h (by omega), hc', bs, hd', bs]
    have rcs : G46 (.p1 s (i : Int) ((k + 1 : Nat) : Int) t4) = some (A, (n : Int), true) → G46 (.p1 s' (i : Int) ((k + 1 : Nat) : Int) t4) = some (A, (n : Int), true) := fun h' => ag_46 h i t4 m (k + 1) A n (by omega) (by omega) (by omega) h' hn
    by_cases e : ((c.toNat : Int) == 58) = true
    · rw [if_pos e] at hg ⊢
      by_cases e' : ((d.toNat : Int) == 93) = true
      · rw [if_pos e'] at hg ⊢
        rw [wk2 i (by omega), cut_eq s (i + 2) k (by omega) (by omega), bs] at hg
        rw [wk2 i (by omega), cut_eq s' (i + 2) k (by omega) (by omega), bs, ag_cut h (by omega)]
        exact hg
      · rw [if_neg e'] at hg ⊢; exact rcs hg
    · rw [if_neg e] at hg ⊢; exact rcs hg
theorem ag_47 {s s' : Str} {P : Nat} (h : Ag s s' P) {i n : Nat} {c : Int} (hi : i + 1 ≤ P) (hg : F47 s (i : Int) = some (c, (n : Int), true)) (hn : n ≤ P) : F47 s' (i : Int) = some (c, (n : Int), true) := by
  have hl := h.hl
  have hl' := h.hl'
  have lt := h.lt
  have lt' := h.lt'
  have f7 : G47 (.p1 (i : Int)) = some (0, (i : Int), false) := by rw [G47]
  have key : n = i + 5 := by
    unfold F47 at hg
    rw [wk1 i (by omega), wk4 i (by omega), wk3 i (by omega), wk2 i (by omega), wk5 i (by omega), f7] at hg
    by_cases hlt4 : i + 4 < s.length
    · obtain ⟨c1, g1, g1'⟩ := at_lt (s := s) (k := i + 1) (by omega)
      obtain ⟨c2, g2, g2'⟩ := at_lt (s := s) (k := i + 2) (by omega)
      obtain ⟨c3, g3, g3'⟩ := at_lt (s := s) (k := i + 3) (by omega)
      obtain ⟨c4, g4, g4'⟩ := at_lt (s := s) (k := i + 4) (by omega)
      rw [dt (by omega), g3', bs, g1', bs, g4', bs, g2', bs] at hg
      split at hg
      · split at hg
        · have := congrArg (fun x => x.2.1) (Option.some.inj hg)
          simp only [] at this
          omega
        · cases hg
      · cases hg
    · rw [df (by omega)] at hg
      cases hg
  rw [← hg]
  unfold F47
  rw [wk1 i (by omega), wk4 i (by omega), wk3 i (by omega), wk2 i (by omega), wk5 i (by omega), dt (by omega), dt (by omega), ag_ix h (k := i + 3) (by omega), ag_ix h (k := i + 1) (by omega), ag_ix h (k := i + 4) (by omega), ag_ix h (k := i + 2) (by omega)]
theorem ag_48 {s s' : Str} {P : Nat} (h : Ag s s' P) {i n : Nat} {c : Int} (hi : i + 1 ≤ P) (hg : F48 s (i : Int) = some (c, (n : Int), true)) (hn : n ≤ P) : F48 s' (i : Int) = some (c, (n : Int), true) := by
  have hl := h.hl
  have hl' := h.hl'
  have lt := h.lt
  have lt' := h.lt'
  unfold F48 at hg ⊢
  rw [ag_45 h hi]
  obtain ⟨v, hv, hg⟩ := bind_some hg
  rw [hv, bs]
  by_cases e : (v == 46) = true
  · rw [if_pos e] at hg ⊢
    obtain ⟨r, hr, hg⟩ := bind_some hg
    obtain ⟨r1, r2, r3⟩ := r
    have := Option.some.inj hg
    simp only [Prod.mk.injEq] at this
    obtain ⟨rfl, rfl, rfl⟩ := this
    rw [ag_47 h hi hr hn, bs]
  · rw [if_neg e] at hg ⊢
    rw [hv, bs] at hg
    rw [bs]
    by_cases e2 : (v != 0) = true
    · rw [if_pos e2] at hg; cases hg
    · rw [if_neg e2] at hg ⊢
      rw [← hg]
      have p : G48 (.p1 s' (i : Int)) = G48 (.p1 s (i : Int)) := by rw [G48, G48, ag_ix h (k := i) (by omega)]
      rw [wk1 i (by omega), dt (by omega), dt (by omega), ag_ix h (k := i) (by omega), ag_ix h hi, p]

theorem f40_alone (s : Str) (hl : s.length ≤ 1000000000000000) {i n c : Nat} {v : Int} (hn : n ≤ 1000000000000000) (h45 : F45 s (i : Int) = some v) (hv1 : v ≠ 58) (hv2 : v ≠ 61) (h48 : F48 s (i : Int) = some ((c : Int), (n : Int), true)) (hc : c < 256)
    (hno : ¬ ∃ d, s[n]? = some 45 ∧ s[n + 1]? = some d ∧ d.toNat ≠ 93) : F40 s (i : Int) = some (sa (one c), (n : Int), 0, true) := by
  have q1 : G40 (.p1 (c : Int) (n : Int) (Arr.rep 4 0)) = some (sa (one c), (n : Int), 0, true) := by
    rw [G40, f13_one c hc, bs]
  unfold F40
  rw [h45, bs, if_neg (by simpa using hv1), bs, if_neg (by simpa using hv2), h48, bs, if_neg (by simp), wk1 n (by omega)]
  simp only []
  by_cases hlt : n + 1 < s.length
  · obtain ⟨d0, e0, e0'⟩ := at_lt (s := s) (k := n) (by omega)
    obtain ⟨d1, e1, e1'⟩ := at_lt hlt
    rw [df (by omega), e0', bs]
    by_cases k0 : d0.toNat = 45
    · have : d1.toNat = 93 := Classical.byContradiction fun k1 => hno ⟨d1, by rw [e0]; exact congrArg some (UInt8.toNat_inj.1 k0), e1, k1⟩
      rw [if_neg (by simp [k0]), e1', bs, if_pos (by simp [this]), q1]
    · rw [if_pos (by simp; omega), q1]
  · rw [dt (by omega), q1]

theorem ag_40 {s s' : Str} {P : Nat} (h : Ag s s' P) {i n : Nat} {A : Arr 4 Int} {e : Int} (hin : i < n) (hg : F40 s (i : Int) = some (A, (n : Int), e, true)) (hn : n ≤ P) : F40 s' (i : Int) = some (A, (n : Int), e, true) := by
  have hl := h.hl
  have hl' := h.hl'
  have lt := h.lt
  have lt' := h.lt'
  have h45' := ag_45 h (i := i) (by omega)
  by_cases hone : ∃ (c n1 : Nat) (v : Int), c < 256 ∧ F48 s (i : Int) = some ((c : Int), (n1 : Int), true) ∧ F45 s (i : Int) = some v ∧ v ≠ 58 ∧ v ≠ 61 ∧ i < n1 ∧ n1 ≤ s.length
  · obtain ⟨c, n1, v, hc, h48, h45, hv1, hv2, hi1, hi2⟩ := hone
    by_cases hr : ∃ d, s[n1]? = some 45 ∧ s[n1 + 1]? = some d ∧ d.toNat ≠ 93
    · obtain ⟨d, e0, e1, k1⟩ := hr
      have hlt : n1 + 1 < s.length := by
        rcases Nat.lt_or_ge (n1 + 1) s.length with h | h
        · exact h
        · rw [List.getElem?_eq_none h] at e1; cases e1
      have hg2 := hg
      unfold F40 at hg2
      rw [h45, bs, if_neg (by simpa using hv1), bs, if_neg (by simpa using hv2), h48, bs, if_neg (by simp), wk1 n1 (by omega)] at hg2
      simp only [] at hg2
      rw [df (by omega), ixs e0, bs, if_neg (by decide), ixs e1, bs, if_neg (by simp; omega)] at hg2
      rcases itm s hl hlt with ⟨k38, ⟨a, b, k48⟩, _⟩ | ⟨g2, c2, n2, hc2, k38, ⟨a, b, k48⟩, _, _, _⟩ | ⟨c2, n2, v2, hc2, k38, k48, _, _, _, m1, m2⟩
      · rw [k48, bs, if_pos (by simp), G40] at hg2; cases hg2
      · rw [k48, bs, if_pos (by simp), G40] at hg2; cases hg2
      · by_cases hlt2 : c2 < c
        · rw [k48, bs, if_neg (by simp), if_pos (by simp; omega), G40] at hg2; cases hg2
        · have hs := f40_ran s (by omega) h45 hv1 hv2 h48 hc hc2 (by omega) e0 e1 k1 k48
          have hq := hg.symm.trans hs
          have hn2 : n = n2 := by
            have := congrArg (fun x => x.2.1) (Option.some.inj hq)
            simp only [] at this
            omega
          subst hn2
          rw [hq]
          exact f40_ran s' (by omega) (h45'.trans h45) hv1 hv2 (ag_48 h (by omega) h48 (by omega)) hc hc2 (by omega) ((h.eq n1 (by omega)).trans e0) ((h.eq (n1 + 1) (by omega)).trans e1) k1 (ag_48 h (by omega) k48 hn)
    · have hs := f40_alone s hl (by omega) h45 hv1 hv2 h48 hc hr
      have hq := hg.symm.trans hs
      have hn1 : n = n1 := by
        have := congrArg (fun x => x.2.1) (Option.some.inj hq)
        simp only [] at this
        omega
      subst hn1
      rw [hq]
      refine f40_alone s' hl' (by omega) (h45'.trans h45) hv1 hv2 (ag_48 h (by omega) h48 hn) hc ?_
      rintro ⟨d, e0, e1, k1⟩
      by_cases e : n = P
      · rw [h.eq n hn, e, h.cl] at e0
        cases e0
      · exact hr ⟨d, (h.eq n hn).symm.trans e0, (h.eq (n + 1) (by omega)).symm.trans e1, k1⟩
  · have hi : i < s.length := by omega
    unfold F40 at hg ⊢
    rw [h45']
    obtain ⟨v, hv, hg⟩ := bind_some hg
    rw [hv, bs]
    by_cases e1 : (v == 58) = true
    · rw [if_pos e1] at hg ⊢
      obtain ⟨r, hr, hg⟩ := bind_some hg
      obtain ⟨r1, r2, r3⟩ := r
      have := Option.some.inj hg
      simp only [Prod.mk.injEq] at this
      obtain ⟨rfl, rfl, rfl, rfl⟩ := this
      unfold F46 at hr ⊢
      rw [wk2 i (by omega)] at hr ⊢
      by_cases h2 : i + 2 ≤ s.length
      · rw [ag_46 h i _ s.length (i + 2) _ n (by omega) (by omega) h2 hr hn, bs]
      · rw [G46.eq_1, wk1 (i + 2) (by omega), df (by omega)] at hr; cases hr
    · rw [if_neg e1] at hg ⊢
      rw [hv, bs] at hg
      rw [bs]
      by_cases e2 : (v == 61) = true
      · rw [if_pos e2] at hg ⊢
        obtain ⟨r, hr, hg⟩ := bind_some hg
        obtain ⟨w, hw, hg⟩ := bind_some hg
        obtain ⟨r1, r2, r3⟩ := r
        have := Option.some.inj hg
        simp only [Prod.mk.injEq] at this
        obtain ⟨rfl, rfl, rfl, rfl⟩ := this
        rw [ag_47 h (by omega) hr hn, bs]
        simp only [] at hw ⊢
        rw [hw, bs]
      · exfalso
        rw [if_neg e2] at hg
        rcases itm s hl hi with ⟨k38, ⟨a, b, k48⟩, _⟩ | ⟨g2, c2, n2, hc2, k38, ⟨a, b, k48⟩, _, _, _⟩ | ⟨c2, n2, v2, hc2, k38, k48, m0, m1, m2, m3, m4⟩
        · rw [k48, bs, if_pos (by simp)] at hg; cases hg
        · rw [k48, bs, if_pos (by simp)] at hg; cases hg
        · exact hone ⟨c2, n2, v2, hc2, k48, m0, m1, m2, m3, m4⟩

theorem shape (s : Str) (hl : s.length ≤ 1000000000000000) (not_ : Bool) (t3 : Arr 4 Int) (fst : Nat) : ∀ (m i : Nat) (g : Nat → Bool), s.length ≤ i + m → i ≤ s.length → fst ≤ i →
    (∃ e, G23 (.p3 s (i : Int) not_ (fst : Int) t3 (sa g)) = some (Arr.rep 4 0, 0, 70, e)) ∨
    (∃ (P : Nat) (g' : Nat → Bool), G23 (.p3 s (i : Int) not_ (fst : Int) t3 (sa g)) = some (sa g', ((P + 1 : Nat) : Int), 0, 0) ∧ i ≤ P ∧ fst < P ∧ P < s.length ∧ s[P]? = some 93 ∧
      ∀ s', Ag s s' P → G23 (.p3 s' (i : Int) not_ (fst : Int) t3 (sa g)) = some (sa g', ((P + 1 : Nat) : Int), 0, 0)) := by
  intro m
  have last : ∀ (i : Nat) (g : Nat → Bool), ¬ i < s.length → ∃ e, G23 (.p3 s (i : Int) not_ (fst : Int) t3 (sa g)) = some (Arr.rep 4 0, 0, 70, e) := fun i g hi => by
    refine ⟨(s.length : Int), ?_⟩
    rw [G23.eq_3, df (by omega)]
  induction m with
  | zero => exact fun i g h1 h2 hf => .inl (last i g (by omega))
  | succ m ih =>
    intro i g h1 h2 hf
    by_cases hi : i < s.length
    · obtain ⟨c, hc, hc'⟩ := at_lt hi
      by_cases hend : fst < i ∧ c.toNat = 93
      · right
        have go : ∀ s' : Str, i < s'.length → s'[i]? = some c → G23 (.p3 s' (i : Int) not_ (fst : Int) t3 (sa g)) = some (sa (fun n => if not_ = true then !g n else g n), ((i + 1 : Nat) : Int), 0, 0) := fun s' hi' h' => by
          rw [G23.eq_3, dt (by omega), ixs h', bs, if_pos (by simp [hend.2]), dt (by omega)]
          cases not_ with
          | true => rw [if_pos rfl, f30_eq, bs, G23.eq_4, wk1 i (by omega)]; rfl
          | false => rw [if_neg (by simp), G23.eq_4, wk1 i (by omega)]; rfl
        refine ⟨i, _, go s hi hc, Nat.le_refl _, hend.1, hi, ?_, fun s' h => go s' h.lt' ((h.eq i (Nat.le_refl _)).trans hc)⟩
        rw [hc]; exact congrArg some (UInt8.toNat_inj.1 hend.2)
      · have e23 : ∀ s' : Str, i < s'.length → s'[i]? = some c → G23 (.p3 s' (i : Int) not_ (fst : Int) t3 (sa g)) = G23 (.p5 s' (i : Int) not_ (fst : Int) t3 (sa g)) := fun s' hi' h' => by
          rw [G23.eq_3, dt (by omega), ixs h', bs]
          by_cases e : c.toNat = 93
          · rw [if_pos (by simp [e]), df (by omega)]
          · rw [if_neg (by simp; omega)]
        rw [e23 s hi hc, G23.eq_5]
        rcases stp s hl hi not_ t3 g with ⟨A, n, e, k1, _⟩ | ⟨g', n', e, k1, k2, k3, _⟩
        · left
          refine ⟨(e : Int), ?_⟩
          rw [k1, bs, if_pos (by simp)]
        · have st : (F40 s (i : Int) >>= fun r37 => if (!r37.2.2.2) = true then some (Arr.rep 4 0, 0, 70, r37.2.2.1) else F28 (sa g) r37.1 >>= fun r58 => G23 (.p3 s r37.2.1 not_ (fst : Int) t3 r58)) = G23 (.p3 s (n' : Int) not_ (fst : Int) t3 (sa fun x => g x || g' x)) := by
            rw [k1, bs, if_neg (by simp), f28_eq, bs]
          rcases ih n' (fun x => g x || g' x) (by omega) k3 (by omega) with ⟨e', h'⟩ | ⟨P, g2, h', p1, p2, p3, p4, p5⟩
          · exact .inl ⟨e', st.trans h'⟩
          · refine .inr ⟨P, g2, st.trans h', by omega, p2, p3, p4, fun s' ha => ?_⟩
            rw [e23 s' (by have := ha.lt'; omega) ((ha.eq i (by omega)).trans hc), G23.eq_5, ag_40 ha k2 k1 p1, bs, if_neg (by simp), f28_eq, bs]
            exact p5 s' ha
    · exact .inl (last i g hi)
end
end Go.Proofs.Ytfjdegohjnejkaa
