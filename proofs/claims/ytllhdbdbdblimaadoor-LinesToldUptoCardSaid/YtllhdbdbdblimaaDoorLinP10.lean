/-
  Lines: what is told can be read.
-/
import Derived.Test.YtllhdbdbdblimaaDoorLinP9
import Derived.Test.YtllhdbdbdblimaaDoorFwRow2
namespace Go.Proofs.YtllhdbdbdblimaaDoor
open Go AW
set_option linter.unusedVariables false
set_option linter.unusedSimpArgs false
theorem all256 {p : UInt8 → Prop} (h : ∀ n : Fin 256, p (UInt8.ofNat n.val)) (b : UInt8) : p b := by
  have := h ⟨b.toNat, b.toNat_lt⟩
  simpa using this
theorem td_oct (b : UInt8) : (td b).length = 4 → td b = [92, UInt8.ofNat (b.toNat / 64 + 48), UInt8.ofNat (b.toNat / 8 % 8 + 48), UInt8.ofNat (b.toNat % 8 + 48)] := by
  refine all256 (p := fun b => (td b).length = 4 → td b = [92, UInt8.ofNat (b.toNat / 64 + 48), UInt8.ofNat (b.toNat / 8 % 8 + 48), UInt8.ofNat (b.toNat % 8 + 48)]) ?_ b
  decide +kernel
theorem td_short (b : UInt8) : (td b).length ≠ 4 → one1 false (td b) = ((b.toNat : Int), (td b).length, true) := by
  refine all256 (p := fun b => (td b).length ≠ 4 → one1 false (td b) = ((b.toNat : Int), (td b).length, true)) ?_ b
  decide +kernel
theorem td_chars (b : UInt8) : ((td b).all fun x => decide (32 ≤ x.toNat ∧ x.toNat ≤ 126)) = true := by
  refine all256 (p := fun b => ((td b).all fun x => decide (32 ≤ x.toNat ∧ x.toNat ≤ 126)) = true) ?_ b
  decide +kernel
theorem td_head (b : UInt8) : (b ≠ 34 → (td b).head? ≠ some 34) ∧ ((td b).head? = some 92 → 2 ≤ (td b).length ∧ (td b)[1]? ≠ some 34) := by
  refine all256 (p := fun b => (b ≠ 34 → (td b).head? ≠ some 34) ∧ ((td b).head? = some 92 → 2 ≤ (td b).length ∧ (td b)[1]? ≠ some 34)) ?_ b
  decide +kernel
theorem dg_app : ∀ (r : Str) (n k : Nat) (X : Str), (dg n k r).2.2 = true → dg n k (r ++ X) = dg n k r
  | [], n, k, X, h => by
    have hk : 3 ≤ k := by
      rcases Nat.lt_or_ge k 3 with h' | h'
      · unfold dg at h; rw [if_neg (by omega)] at h; cases h
      · exact h'
    cases X with
    | nil => rfl
    | cons c X => simp [dg, hk]
  | c :: r, n, k, X, h => by
    simp only [List.cons_append]
    unfold dg at h ⊢
    by_cases hk : 3 ≤ k
    · rw [if_pos hk, if_pos hk]
    · rw [if_neg hk] at h
      rw [if_neg hk, if_neg hk]
      by_cases hc : c.toNat < 48 ∨ 55 < c.toNat ∨ gs (8 * n + (c.toNat - 48)) k = false
      · rw [if_pos hc, if_pos hc]
      · rw [if_neg hc] at h
        rw [if_neg hc, if_neg hc, dg_app r _ _ X h]
theorem esc_app (r X : Str) (h : (esc r).2.2 = true) : esc (r ++ X) = esc r := by
  cases r with
  | nil => cases h
  | cons c r =>
    unfold esc at h ⊢
    simp only [List.cons_append] at h ⊢
    cases hl : let2 c with
    | some x => rfl
    | none =>
      rw [hl] at h
      simp only at h ⊢
      have := dg_app (c :: r) 0 0 X h
      simpa using this
theorem one1_app (q : Bool) (l X : Str) (h : (one1 q l).2.2 = true) : one1 q (l ++ X) = one1 q l := by
  cases l with
  | nil => cases h
  | cons b r =>
    rw [List.cons_append, one1_cons, one1_cons] at *
    by_cases hb : b = 92
    · rw [if_pos hb] at h ⊢
      rw [if_pos hb]
      cases r with
      | nil =>
        rw [if_neg (by simp)] at h
        cases h
      | cons c r =>
        by_cases hq : q = true ∧ (c :: r).head? = some 34
        · rw [if_pos hq, if_pos (show q = true ∧ (c :: r ++ X).head? = some 34 from hq)]
        · rw [if_neg hq] at h
          rw [if_neg hq, if_neg (show ¬ (q = true ∧ (c :: r ++ X).head? = some 34) from hq)]
          have := esc_app (c :: r) X h
          rw [this]
    · rw [if_neg hb, if_neg hb]
theorem gs_b (b : UInt8) (h4 : (td b).length = 4) (k : Nat) : gs (b.toNat / 8 ^ (2 - k)) k = true :=
  some4_true (c := b.toNat) b.toNat_lt rfl (by simp [l4, h4])
theorem dg_b (b : UInt8) (h4 : (td b).length = 4) : dg 0 0 [UInt8.ofNat (b.toNat / 64 + 48), UInt8.ofNat (b.toNat / 8 % 8 + 48), UInt8.ofNat (b.toNat % 8 + 48)] = ((b.toNat : Int), 3, true) := by
  have hb := b.toNat_lt
  have t1 : (UInt8.ofNat (b.toNat / 64 + 48)).toNat = b.toNat / 64 + 48 := by simp; omega
  have t2 : (UInt8.ofNat (b.toNat / 8 % 8 + 48)).toNat = b.toNat / 8 % 8 + 48 := by simp; omega
  have t3 : (UInt8.ofNat (b.toNat % 8 + 48)).toNat = b.toNat % 8 + 48 := by simp; omega
  have g0 := gs_b b h4 0
  have g1 := gs_b b h4 1
  have g2 := gs_b b h4 2
  simp only [Nat.reduceSub, Nat.reducePow, Nat.div_one] at g0 g1 g2
  have n1 : 8 * 0 + (b.toNat / 64 + 48 - 48) = b.toNat / 64 := by omega
  have n2 : 8 * (b.toNat / 64) + (b.toNat / 8 % 8 + 48 - 48) = b.toNat / 8 := by omega
  have n3 : 8 * (b.toNat / 8) + (b.toNat % 8 + 48 - 48) = b.toNat := by omega
  unfold dg
  rw [if_neg (by omega), t1, n1, if_neg (by rw [g0]; simp; omega)]
  unfold dg
  rw [if_neg (by omega), t2, n2, if_neg (by rw [g1]; simp; omega)]
  unfold dg
  rw [if_neg (by omega), t3, n3, if_neg (by rw [g2]; simp; omega)]
  unfold dg
  rw [if_pos (by omega)]
  have : IntKind.wrap .u8 (b.toNat : Int) = b.toNat := by
    simp only [IntKind.wrap, IntKind.bits, IntKind.signed, Bool.false_and, Bool.false_eq_true, if_false]; omega
  rw [this]
theorem td_one (b : UInt8) : one1 false (td b) = ((b.toNat : Int), (td b).length, true) := by
  by_cases h4 : (td b).length = 4
  · have hb := b.toNat_lt
    have hd := dg_b b h4
    rw [h4, td_oct b h4, one1_cons, if_pos rfl, if_neg (by simp)]
    have hl : let2 (UInt8.ofNat (b.toNat / 64 + 48)) = none := by
      have : b.toNat / 64 < 4 := by omega
      match b.toNat / 64, this with
      | 0, _ => decide
      | 1, _ => decide
      | 2, _ => decide
      | 3, _ => decide
    have hE : esc [UInt8.ofNat (b.toNat / 64 + 48), UInt8.ofNat (b.toNat / 8 % 8 + 48), UInt8.ofNat (b.toNat % 8 + 48)] = ((b.toNat : Int), 3, true) := by
      rw [esc_none hl]
      exact hd
    rw [hE]
  · exact td_short b h4
theorem td_read (b : UInt8) (X : Str) : one1 false (td b ++ X) = ((b.toNat : Int), (td b).length, true) := by
  rw [one1_app false _ X (by rw [td_one]), td_one]
theorem td_readq (b : UInt8) (h : b ≠ 34) (X : Str) : one1 true (td b ++ X) = ((b.toNat : Int), (td b).length, true) := by
  have h0 := td_read b X
  obtain ⟨h1, h2⟩ := td_head b
  have hl := td_len b
  cases ht : td b with
  | nil => rw [ht] at hl; simp at hl
  | cons c r =>
    rw [ht] at h0 h1 h2
    rw [List.cons_append, one1_cons] at h0 ⊢
    by_cases hc : c = 92
    · rw [if_pos hc] at h0 ⊢
      rw [if_neg (by simp)] at h0
      have h3 := h2 (by simp [hc])
      rw [if_neg, h0]
      cases r with
      | nil => simp at h3
      | cons d r => simp at h3 ⊢; exact h3
    · rw [if_neg hc] at h0 ⊢
      have h34 : c ≠ 34 := by simpa using h1 h
      by_cases hx : c.toNat < 32 ∨ 127 ≤ c.toNat
      · rw [if_pos (by rcases hx with hx | hx; exact .inl hx; exact .inr (.inl hx))] at h0
        simp at h0
      · rw [if_neg (by rintro (h | h | h); exact hx (.inl h); exact hx (.inr h); cases h.1)] at h0
        rw [if_neg (by rintro (h | h | h); exact hx (.inl h); exact hx (.inr h); exact h34 h.2), h0]

/-! ### A quoted text -/
theorem drop_app {α : Type} {l x y : List α} {i : Nat} (h : l.drop i = x ++ y) : l.drop (i + x.length) = y := by
  rw [← List.drop_drop, h]; simp
theorem get_drop {α : Type} {l : List α} {i : Nat} {x : α} {y : List α} (h : l.drop i = x :: y) : l[i]? = some x := by
  have := congrArg (fun z : List α => z[0]?) h
  simpa using this
theorem uq (s' : Str) (hs : s'.length ≤ 10000000000) (t : Str) : ∀ (r o : Str) (i : Nat), s'.drop i = qs r ++ t → o.length ≤ i → G22 (.p2 s' (i : Int) (so (ofBs o))) = some (o ++ r, ((i + (qs r).length : Nat) : Int), 0, 0)
  | [], o, i, hd, ho => by
    have hb : s'[i]? = some 34 := get_drop (y := t) (by rw [hd]; rfl)
    rw [u22 s' i _ (lt_of_getElem? hb) hs (by rw [ls_so, ofBs_len]; exact ho) hb, if_pos rfl, ls_so, toBs_ofBs]
    simp [qs]
  | b :: r, o, i, hd, ho => by
    rw [qs_cons, List.append_assoc] at hd
    have hq := q1_len b
    have hread : one1 true (s'.drop i) = ((b.toNat : Int), (q1 b).length, true) := by
      rw [hd]
      unfold q1
      split
      · rename_i h; subst h; simp [one1]
      · rename_i h; exact td_readq b h _
    obtain ⟨c, l, hcl⟩ : ∃ c l, q1 b = c :: l := by
      cases hq1 : q1 b with
      | nil => rw [hq1] at hq; simp at hq
      | cons c l => exact ⟨c, l, rfl⟩
    have hc34 : c ≠ 34 := by
      intro e
      unfold q1 at hcl
      split at hcl
      · cases hcl; exact absurd e (by decide)
      · rename_i h
        exact (td_head b).1 h (by rw [hcl, e]; rfl)
    have hb : s'[i]? = some c := get_drop (y := l ++ (qs r ++ t)) (by rw [hd, hcl]; rfl)
    rw [u22 s' i _ (lt_of_getElem? hb) hs (by rw [ls_so, ofBs_len]; exact ho) hb, if_neg hc34, hread]
    simp only [if_true]
    have hlen : i + (q1 b).length ≤ 10000000000 + 4 := by have := lt_of_getElem? hb; omega
    rw [show [((b.toNat : Int))] = ofBs [b] from rfl, sapp_ofBs, uq s' hs t r (o ++ [b]) (i + (q1 b).length) (drop_app hd) (by simp; omega), qs_cons]
    simp [Nat.add_assoc]
theorem f22q (s t : Str) (h : 4 * s.length + t.length ≤ 9000000000) : F22 (34 :: qs s ++ t) = some (s, ((34 :: qs s).length : Int), 0, 0) := by
  have hl := qs_len s
  have hs : (34 :: qs s ++ t).length ≤ 10000000000 := by simp; omega
  have := uq (34 :: qs s ++ t) hs t s [] 1 (by simp) (by simp)
  have x0 : ix (34 :: qs s ++ t) 0 = some 34 := rfl
  unfold F22
  rw [if_neg (by simp), x0, sm, if_neg (by decide)]
  refine this.trans ?_
  simp [Nat.add_comm]

/-! ### A listing -/
theorem rws_head (w row : Int) (s : Str) : ∃ c l, rws w row s = c :: l ∧ c ≠ 10 := by
  cases s with
  | nil => exact ⟨36, [10], rfl, by decide⟩
  | cons b s =>
    have hl := td_len b
    have hc := td_chars b
    unfold rws
    split
    · exact ⟨92, _, rfl, by decide⟩
    · cases ht : td b with
      | nil => rw [ht] at hl; simp at hl
      | cons c l =>
        rw [ht] at hc
        simp only [List.all_cons, Bool.and_eq_true, decide_eq_true_eq] at hc
        refine ⟨c, _, rfl, fun e => ?_⟩
        subst e
        exact absurd hc.1.1 (by decide)
/-- A told byte in a listing is read. -/
theorem ul1 (s' : Str) (hs : s'.length ≤ 10000000000) (b : UInt8) (X : Str) (hX : X.head? ≠ some 10) (cut : Bool) (i : Nat) (out : Sl Int) (ho : (ls out).length ≤ i) (hd : s'.drop i = td b ++ X) :
    G28 (.p1 s' cut (i : Int) out) = G28 (.p1 s' false ((i + (td b).length : Nat) : Int) (sapp out [(b.toNat : Int)])) := by
  have hl := td_len b
  have hch := td_chars b
  obtain ⟨c, l, hcl⟩ : ∃ c l, td b = c :: l := by
    cases ht : td b with
    | nil => rw [ht] at hl; simp at hl
    | cons c l => exact ⟨c, l, rfl⟩
  have hb : s'[i]? = some c := get_drop (y := l ++ X) (by rw [hd, hcl]; rfl)
  have hn : s'[i + 1]? ≠ some 10 := by
    intro e
    have h2 : (s'.drop i)[1]? = some 10 := by rw [List.getElem?_drop]; exact e
    rw [hd, hcl] at h2
    cases l with
    | nil =>
      simp at h2
      rw [← List.head?_eq_getElem?] at h2
      exact hX h2
    | cons d l =>
      simp at h2
      subst h2
      rw [hcl] at hch
      simp at hch
  rw [u28 s' i cut out (lt_of_getElem? hb) hs ho hb]
  unfold stL
  rw [if_neg (fun h => hn h.2.1), if_neg (fun h => hn h.2), hd, td_read b X]
  simp only [if_true]
theorem ul (w : Int) (s' : Str) (hs : s'.length ≤ 10000000000) : ∀ (r o : Str) (row : Int) (i : Nat), s'.drop i = rws w row r → o.length ≤ i → 0 ≤ row → (row > 0 → o ≠ []) → G28 (.p1 s' false (i : Int) (so (ofBs o))) = some (o ++ r, 0, 0)
  | [], o, row, i, hd, ho, h0, hr => by
    have hb : s'[i]? = some 36 := get_drop (y := [10]) hd
    have hn : s'[i + 1]? = some 10 := by
      have h2 : (s'.drop i)[1]? = s'[i + 1]? := by rw [List.getElem?_drop]
      rw [← h2, hd]; rfl
    have hlen : i + 2 = s'.length := by
      have := congrArg List.length hd
      have h3 := lt_of_getElem? hb
      simp [rws] at this; omega
    rw [u28 s' i false _ (lt_of_getElem? hb) hs (by rw [ls_so, ofBs_len]; exact ho) hb]
    unfold stL
    rw [if_pos ⟨rfl, hn, rfl⟩, if_neg (by omega), ls_so, toBs_ofBs]
    simp
  | b :: r, o, row, i, hd, ho, h0, hr => by
    have hl := td_len b
    have rest : ∀ (row' : Int) (cut : Bool) (j : Nat), s'.drop j = td b ++ rws w row' r → i ≤ j → row' > 0 → G28 (.p1 s' cut (j : Int) (so (ofBs o))) = some (o ++ b :: r, 0, 0) := by
      intro row' cut j hj hij _
      obtain ⟨c, l, hcl, hc⟩ := rws_head w row' r
      rw [ul1 s' hs b _ (by rw [hcl]; simpa using hc) cut j _ (by rw [ls_so, ofBs_len]; omega) hj, show [((b.toNat : Int))] = ofBs [b] from rfl, sapp_ofBs]
      rw [ul w s' hs r (o ++ [b]) row' (j + (td b).length) (drop_app hj) (by simp; omega) (by omega) (fun _ => by simp)]
      simp
    unfold rws at hd
    by_cases hP : w > 1 ∧ row > 0 ∧ row + ((td b).length : Int) > w - 1
    · rw [if_pos hP] at hd
      have hb : s'[i]? = some 92 := get_drop (y := 10 :: (td b ++ rws w (td b).length r)) hd
      have hn : s'[i + 1]? = some 10 := by
        have h2 : (s'.drop i)[1]? = s'[i + 1]? := by rw [List.getElem?_drop]
        rw [← h2, hd]; rfl
      have hne := hr hP.2.1
      have hol : 0 < o.length := List.length_pos_iff.2 hne
      rw [u28 s' i false _ (lt_of_getElem? hb) hs (by rw [ls_so, ofBs_len]; exact ho) hb]
      unfold stL
      rw [if_neg (by rintro ⟨h, _⟩; exact absurd h (by decide)), if_pos ⟨rfl, hn⟩, if_neg (by rintro (h | h); cases h; rw [ls_so, ofBs_len] at h; omega)]
      exact rest _ true (i + 2) (drop_app (x := [92, 10]) hd) (by omega) (by omega)
    · rw [if_neg hP] at hd
      exact rest _ false i hd (by omega) (by omega)
end Go.Proofs.YtllhdbdbdblimaaDoor
