/-
  Sets of bytes: what is printed reads back.
-/
import Derived.Test.YtfjdegohjnejkaaPureSetsBrackets
namespace Go.Proofs.Ytfjdegohjnejkaa
open Go AW
set_option linter.unusedVariables false
noncomputable section

theorem tol_cs (n : Nat) : (tol n = [UInt8.ofNat n] ∧ n ≠ 91 ∧ n ≠ 93 ∧ n ≠ 94 ∧ n ≠ 45 ∧ n ≠ 92) ∨ tol n = [91, 46, UInt8.ofNat n, 46, 93] := by
  have hg : G41 (.p1 (n : Int)) = some [91, 46, UInt8.ofNat n, 46, 93] := by rw [G41]; simp [toBs]
  have ht : toBs [(n : Int)] = [UInt8.ofNat n] := by simp [toBs]
  unfold tol F41
  rw [hg, ht]
  split
  · right; rfl
  · split
    · right; rfl
    · split
      · right; rfl
      · split
        · right; rfl
        · split
          · right; rfl
          · split
            · right; rfl
            · rename_i a b c d e f
              simp at a b c d e
              exact .inl ⟨rfl, by omega, by omega, by omega, by omega, by omega⟩
theorem ofN (n : Nat) (h : n < 256) : (UInt8.ofNat n).toNat = n := by
  simp [UInt8.toNat_ofNat]; omega

theorem tol_hd (n : Nat) (h : n < 256) : ∃ c r, tol n = c :: r ∧ c.toNat ≠ 93 ∧ c.toNat ≠ 94 ∧ c.toNat ≠ 45 := by
  rcases tol_cs n with ⟨e, h1, h2, h3, h4, h5⟩ | e
  · exact ⟨_, _, e, by rw [ofN n h]; exact h2, by rw [ofN n h]; exact h3, by rw [ofN n h]; exact h4⟩
  · exact ⟨_, _, e, by decide, by decide, by decide⟩

theorem rd_tol (s : Str) (hl : s.length ≤ 1000000000000000) (i n : Nat) (rest : Str) (hd : s.drop i = tol n ++ rest) (hn : n < 256) :
    ∃ v : Int, F45 s (i : Int) = some v ∧ v ≠ 58 ∧ v ≠ 61 ∧ F48 s (i : Int) = some ((n : Int), ((i + (tol n).length : Nat) : Int), true) := by
  have hk : ∀ k, s[i + k]? = (tol n ++ rest)[k]? := fun k => by rw [← hd, List.getElem?_drop]
  rcases tol_cs n with ⟨e, h1, h2, h3, h4, h5⟩ | e
  · rw [e] at hk
    have h0 : s[i]? = some (UInt8.ofNat n) := hk 0
    have hi : i < s.length := by
      rcases Nat.lt_or_ge i s.length with h | h
      · exact h
      · rw [List.getElem?_eq_none h] at h0; cases h0
    have hs : ∀ c, ¬ Spc s i c := fun c h => by
      have := h0.symm.trans h.1
      have := congrArg (Option.map UInt8.toNat) this
      simp only [Option.map_some, ofN n hn] at this
      exact h1 (Option.some.inj this)
    refine ⟨0, pln_45 s hl hi hs, by omega, by omega, ?_⟩
    have p48 : G48 (.p1 s (i : Int)) = some ((n : Int), ((i + 1 : Nat) : Int), true) := by
      rw [G48, ixs h0, bs, wk1 i (by omega), ofN n hn]
    rw [e]
    unfold F48
    rw [pln_45 s hl hi hs, bs, if_neg (by decide), bs, if_neg (by decide), wk1 i (by omega), p48]
    by_cases hlt : i + 1 < s.length
    · rw [dt (by omega), ixs h0, bs, if_neg (by rw [ofN n hn]; simp; omega)]
      rfl
    · rw [df (by omega)]
      rfl
  · rw [e] at hk
    have h0 : s[i]? = some 91 := hk 0
    have h1 : s[i + 1]? = some 46 := hk 1
    have h2 : s[i + 2]? = some (UInt8.ofNat n) := hk 2
    have h3 : s[i + 3]? = some 46 := hk 3
    have h4 : s[i + 4]? = some 93 := hk 4
    have hlt : i + 4 < s.length := by
      rcases Nat.lt_or_ge (i + 4) s.length with h | h
      · exact h
      · rw [List.getElem?_eq_none h] at h4; cases h4
    have h45 := spc_45 s hl (i := i) (c1 := 46) ⟨h0, h1, .inl rfl⟩
    refine ⟨_, h45, by decide, by decide, ?_⟩
    have h47 : F47 s (i : Int) = some ((n : Int), ((i + 5 : Nat) : Int), true) := by
      unfold F47
      rw [wk4 i (by omega), wk3 i (by omega), wk1 i (by omega), wk2 i (by omega), wk5 i (by omega), dt (by omega), ixs h3, bs, ixs h1, bs, if_pos (by decide), ixs h4, bs, if_pos (by decide), ixs h2, bs, ofN n hn]
    rw [e]
    unfold F48
    rw [h45, bs, if_pos (by decide), h47, bs]
    rfl

theorem f40_one (s : Str) {i n c : Nat} {v : Int} (hn : n ≤ 1000000000000000) (h45 : F45 s (i : Int) = some v) (hv1 : v ≠ 58) (hv2 : v ≠ 61) (h48 : F48 s (i : Int) = some ((c : Int), (n : Int), true)) (hc : c < 256) (h : s[n]? ≠ some 45) :
    F40 s (i : Int) = some (sa (one c), (n : Int), 0, true) := by
  have q1 : G40 (.p1 (c : Int) (n : Int) (Arr.rep 4 0)) = some (sa (one c), (n : Int), 0, true) := by
    rw [G40, f13_one c hc, bs]
  unfold F40
  rw [h45, bs, if_neg (by simpa using hv1), bs, if_neg (by simpa using hv2), h48, bs, if_neg (by simp), wk1 n (by omega)]
  simp only []
  by_cases hlt : n + 1 < s.length
  · obtain ⟨d0, e0, e0'⟩ := at_lt (s := s) (k := n) (by omega)
    have : d0.toNat ≠ 45 := fun e => h (by rw [e0]; exact congrArg some (UInt8.toNat_inj.1 e))
    rw [df (by omega), e0', bs, if_pos (by simp; omega), q1]
  · rw [dt (by omega), q1]
theorem f40_ran (s : Str) {i n a z n2 : Nat} {v : Int} (hn : n ≤ 1000000000000000) (h45 : F45 s (i : Int) = some v) (hv1 : v ≠ 58) (hv2 : v ≠ 61) (h48 : F48 s (i : Int) = some ((a : Int), (n : Int), true)) (ha : a < 256) (hz : z < 256) (haz : a ≤ z)
    (h0 : s[n]? = some 45) {d : UInt8} (h1 : s[n + 1]? = some d) (hd : d.toNat ≠ 93) (k48 : F48 s ((n + 1 : Nat) : Int) = some ((z : Int), (n2 : Int), true)) :
    F40 s (i : Int) = some (sa (ran a z), (n2 : Int), 0, true) := by
  have hlt : n + 1 < s.length := by
    rcases Nat.lt_or_ge (n + 1) s.length with h | h
    · exact h
    · rw [List.getElem?_eq_none h] at h1; cases h1
  unfold F40
  rw [h45, bs, if_neg (by simpa using hv1), bs, if_neg (by simpa using hv2), h48, bs, if_neg (by simp), wk1 n (by omega)]
  simp only []
  rw [df (by omega), ixs h0, bs, if_neg (by decide), ixs h1, bs, if_neg (by simp; omega), k48, bs, if_neg (by simp)]
  simp only []
  rw [df (by omega), f21_eq a z ha hz, bs]

theorem g23_item (s : Str) {i n : Nat} {g g' : Nat → Bool} {e : Int} (not_ : Bool) (fst : Int) (t3 : Arr 4 Int) {c : UInt8} (hc : s[i]? = some c) (h93 : c.toNat ≠ 93) (h40 : F40 s (i : Int) = some (sa g', (n : Int), e, true)) :
    G23 (.p3 s (i : Int) not_ fst t3 (sa g)) = G23 (.p3 s (n : Int) not_ fst t3 (sa fun x => g x || g' x)) := by
  have hi : i < s.length := by
    rcases Nat.lt_or_ge i s.length with h | h
    · exact h
    · rw [List.getElem?_eq_none h] at hc; cases hc
  rw [G23.eq_3, dt (by omega), ixs hc, bs, if_neg (by simp; omega), G23.eq_5, h40, bs, if_neg (by simp), f28_eq, bs]

def NoDash (r : Str) : Prop := ∀ c t, r = c :: t → c.toNat ≠ 45
theorem noDash_at {s r : Str} {n : Nat} (h : s.drop n = r) (hr : NoDash r) : s[n]? ≠ some 45 := fun e => by
  have h' : r[0]? = some 45 := by rw [← h, List.getElem?_drop]; exact e
  cases r with
  | nil => cases h'
  | cons c t => exact hr c t rfl (by have := Option.some.inj h'; rw [this]; rfl)
theorem noDash_tol (n : Nat) (h : n < 256) (r : Str) : NoDash (tol n ++ r) := fun c t e => by
  obtain ⟨c', r', e', _, _, h3⟩ := tol_hd n h
  rw [e'] at e
  cases e
  exact h3
theorem drop_more {s a b : Str} {i : Nat} (h : s.drop i = a ++ b) : s.drop (i + a.length) = b := by
  rw [← List.drop_drop, h, List.drop_left]
theorem hd_at {s r : Str} {i n : Nat} (h : s.drop i = tol n ++ r) (hn : n < 256) : ∃ c, s[i]? = some c ∧ c.toNat ≠ 93 := by
  obtain ⟨c', r', e', h1, _, _⟩ := tol_hd n hn
  refine ⟨c', ?_, h1⟩
  have : (s.drop i)[0]? = some c' := by rw [h, e']; rfl
  rw [List.getElem?_drop] at this
  exact this

theorem g23_one (s : Str) (hl : s.length ≤ 1000000000000000) (not_ : Bool) (fst : Int) (t3 : Arr 4 Int) {i n : Nat} {g : Nat → Bool} {rest : Str} (hd : s.drop i = tol n ++ rest) (hn : n < 256) (hr : NoDash rest) :
    G23 (.p3 s (i : Int) not_ fst t3 (sa g)) = G23 (.p3 s ((i + (tol n).length : Nat) : Int) not_ fst t3 (sa fun x => g x || one n x)) := by
  obtain ⟨v, h45, v1, v2, h48⟩ := rd_tol s hl i n rest hd hn
  obtain ⟨c, hc, h93⟩ := hd_at hd hn
  have hlen : i + (tol n).length ≤ s.length ∨ s.length < i := by
    have := congrArg List.length hd
    simp at this
    omega
  have hi : i < s.length := by
    rcases Nat.lt_or_ge i s.length with h | h
    · exact h
    · rw [List.getElem?_eq_none h] at hc; cases hc
  exact g23_item s not_ fst t3 hc h93 (f40_one s (by omega) h45 v1 v2 h48 hn (noDash_at (drop_more hd) hr))

theorem g23_piece (s : Str) (hl : s.length ≤ 1000000000000000) (not_ : Bool) (fst : Int) (t3 : Arr 4 Int) {i a z : Nat} {g : Nat → Bool} {rest : Str} (hd : s.drop i = piece a z ++ rest) (haz : a ≤ z) (hz : z < 256) (hr : NoDash rest) :
    G23 (.p3 s (i : Int) not_ fst t3 (sa g)) = G23 (.p3 s ((i + (piece a z).length : Nat) : Int) not_ fst t3 (sa fun x => g x || ran a z x)) := by
  by_cases h0 : z = a
  · have e : piece a z = tol a := by
      unfold piece
      rw [if_neg (by omega), if_neg (by omega)]; simp
    rw [e] at hd ⊢
    rw [g23_one s hl not_ fst t3 hd (by omega) hr]
    have : sa (fun x => g x || one a x) = sa (fun x => g x || ran a z x) := sa_ext fun n _ => by
      congr 1
      rw [one, ran, decide_eq_decide]; omega
    rw [this]
  · by_cases h1 : z = a + 1
    · have e : piece a z = tol a ++ tol z := by
        unfold piece
        rw [if_neg (by omega), if_pos (by omega)]; simp
      rw [e] at hd ⊢
      rw [List.append_assoc] at hd
      rw [g23_one s hl not_ fst t3 hd (by omega) (noDash_tol z hz rest), g23_one s hl not_ fst t3 (drop_more hd) hz hr]
      have : sa (fun x => (g x || one a x) || one z x) = sa (fun x => g x || ran a z x) := sa_ext fun n _ => by
        rw [Bool.or_assoc]
        congr 1
        rw [one, one, ran, ← Bool.decide_or, decide_eq_decide]; omega
      rw [this, List.length_append, Nat.add_assoc]
    · have e : piece a z = tol a ++ ([45] ++ tol z) := by
        unfold piece
        rw [if_pos (by omega), if_pos (by omega)]
      rw [e] at hd ⊢
      rw [List.append_assoc, List.append_assoc] at hd
      obtain ⟨v, h45, v1, v2, h48⟩ := rd_tol s hl i a _ hd (by omega)
      obtain ⟨c, hc, h93⟩ := hd_at hd (by omega)
      have hd1 := drop_more hd
      have k0 : s[i + (tol a).length]? = some 45 := by
        have : (s.drop (i + (tol a).length))[0]? = some 45 := by rw [hd1]; rfl
        rw [List.getElem?_drop] at this
        exact this
      have hd2 : s.drop (i + (tol a).length + 1) = tol z ++ rest := drop_more (a := [45]) hd1
      obtain ⟨v', k45, _, _, k48⟩ := rd_tol s hl _ z rest hd2 hz
      obtain ⟨d, k1, kd⟩ := hd_at hd2 hz
      have hi : i + (tol a).length + 1 < s.length := by
        rcases Nat.lt_or_ge (i + (tol a).length + 1) s.length with h | h
        · exact h
        · rw [List.getElem?_eq_none h] at k1; cases k1
      rw [g23_item s not_ fst t3 hc h93 (f40_ran s (by omega) h45 v1 v2 h48 (by omega) hz haz k0 k1 kd k48)]
      have : i + (tol a ++ ([45] ++ tol z)).length = i + (tol a).length + 1 + (tol z).length := by simp; omega
      rw [this]

theorem g23_back (s : Str) (hl : s.length ≤ 1000000000000000) (not_ : Bool) (fst : Nat) (t3 : Arr 4 Int) (more : Str) : ∀ (r : List Nat) (a z i : Nat) (g : Nat → Bool), s.drop i = prQ a z r ++ (93 :: more) → a ≤ z → z < 256 → (∀ x ∈ r, x < 256) →
    G23 (.p3 s (i : Int) not_ (fst : Int) t3 (sa g)) = G23 (.p3 s ((i + (prQ a z r).length : Nat) : Int) not_ (fst : Int) t3 (sa fun x => g x || ran a z x || decide (x ∈ r)))
  | [], a, z, i, g, hd, haz, hz, hr => by
    rw [prQ] at hd ⊢
    rw [g23_piece s hl not_ fst t3 hd haz hz (fun c t e => by cases e; decide)]
    simp
  | x :: r, a, z, i, g, hd, haz, hz, hr => by
    have hx : x < 256 := hr x (by simp)
    have hr' : ∀ y ∈ r, y < 256 := fun y hy => hr y (by simp [hy])
    rw [prQ] at hd ⊢
    by_cases h : x = z + 1
    · rw [if_pos h] at hd ⊢
      rw [g23_back s hl not_ fst t3 more r a x i g hd (by omega) hx hr']
      have : sa (fun y => g y || ran a x y || decide (y ∈ r)) = sa (fun y => g y || ran a z y || decide (y ∈ x :: r)) := sa_ext fun n _ => by
        rw [Bool.or_assoc, Bool.or_assoc]
        congr 1
        rw [ran, ran, ← Bool.decide_or, ← Bool.decide_or, decide_eq_decide, List.mem_cons]
        constructor
        · rintro (h | h)
          · by_cases e : n = x
            · exact .inr (.inl e)
            · exact .inl (by omega)
          · exact .inr (.inr h)
        · rintro (h | h | h)
          · exact .inl (by omega)
          · exact .inl (by omega)
          · exact .inr h
      rw [this]
    · rw [if_neg h] at hd ⊢
      rw [List.append_assoc] at hd
      have hnd : NoDash (prQ x x r ++ 93 :: more) := fun c t e => by
        obtain ⟨p, hp⟩ : ∃ p, prQ x x r = tol x ++ p := by
          clear e hd
          have : ∀ (r : List Nat) (z : Nat), ∃ p, prQ x z r = tol x ++ p := fun r => by
            induction r with
            | nil => intro z; exact ⟨_, rfl⟩
            | cons y r ih =>
              intro z
              rw [prQ]
              split
              · exact ih y
              · exact ⟨_, by rw [piece, List.append_assoc]⟩
          exact this r x
        rw [hp, List.append_assoc] at e
        exact noDash_tol x hx _ c t e
      rw [g23_piece s hl not_ fst t3 hd haz hz hnd, g23_back s hl not_ fst t3 more r x x _ _ (drop_more hd) (Nat.le_refl _) hx hr']
      have : sa (fun y => (g y || ran a z y) || ran x x y || decide (y ∈ r)) = sa (fun y => g y || ran a z y || decide (y ∈ x :: r)) := sa_ext fun n _ => by
        rw [Bool.or_assoc (g n || ran a z n)]
        congr 1
        rw [ran, ← Bool.decide_or, decide_eq_decide, List.mem_cons]
        constructor
        · rintro (h | h)
          · exact .inl (by omega)
          · exact .inr h
        · rintro (h | h)
          · exact .inl (by omega)
          · exact .inr h
      rw [this, List.length_append, Nat.add_assoc]
end
end Go.Proofs.Ytfjdegohjnejkaa
