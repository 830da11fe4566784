/-
  Sets of bytes: a bracket's text read in both ways.
-/
import Derived.Test.YtfjdegohjnejkaaSetQ2
namespace Go.Proofs.Ytfjdegohjnejkaa
open Go AW
set_option linter.unusedVariables false

theorem p5_bad (s : Str) (not_ : Bool) (t2 : Arr 4 Int) (j : Int) (e : Nat) (set : Arr 4 Int) : G22 (.p5 not_ t2 ⟨s, j, (e : Int)⟩ set) = some (Arr.rep 4 0, 0, 70, (e : Int)) := by
  rw [G22.eq_5]
  simp only []
  rw [dt (by omega)]
theorem p8_bad (s : Str) (not_ : Bool) (t2 : Arr 4 Int) (j : Int) (e : Nat) (set : Arr 4 Int) (x : T54) : G22 (.p8 s not_ t2 ⟨s, j, (e : Int)⟩ set x) = some (Arr.rep 4 0, 0, 70, (e : Int)) := by
  rw [G22.eq_8]
  simp only []
  rw [dt (by omega), p5_bad]
theorem p7_bad (s : Str) (not_ : Bool) (t2 : Arr 4 Int) (j : Int) (e : Nat) (set : Arr 4 Int) (A B : Arr 4 Int) (a b : Nat) (ha : a < 256) (hb : b < 256) (o o' : Bool) : G22 (.p7 s not_ t2 ⟨s, j, (e : Int)⟩ set ⟨A, (a : Int), o⟩ ⟨B, (b : Int), o'⟩) = some (Arr.rep 4 0, 0, 70, (e : Int)) := by
  rw [G22.eq_7]
  simp only []
  rw [f20_eq a b ha hb, bs, p8_bad]
theorem p6_bad (s : Str) (not_ : Bool) (t2 : Arr 4 Int) (j : Int) (e : Nat) (set : Arr 4 Int) (A B : Arr 4 Int) (a b : Nat) (ha : a < 256) (hb : b < 256) (o o' : Bool) : G22 (.p6 s not_ (e : Int) t2 ⟨s, j, -1⟩ set ⟨A, (a : Int), o⟩ ⟨B, (b : Int), o'⟩) = some (Arr.rep 4 0, 0, 70, (e : Int)) := by
  rw [G22.eq_6, f39_eq, bs]
  exact p7_bad s not_ t2 j e set A B a b ha hb o o'
theorem p8_ok (s : Str) (not_ : Bool) (t2 : Arr 4 Int) (n : Int) (g g' : Nat → Bool) (c : Int) (o : Bool) : G22 (.p8 s not_ t2 ⟨s, n, -1⟩ (sa g) ⟨sa g', c, o⟩) = G22 (.p3 s not_ false t2 ⟨s, n, -1⟩ (sa fun x => g x || g' x)) := by
  rw [G22.eq_8]
  simp only []
  rw [if_neg (by simp), f27_eq, bs]

/-- An item, or a range, in both ways. -/
theorem stp (s : Str) (hl : s.length ≤ 1000000000000000) {i : Nat} (hi : i < s.length) (not_ : Bool) (t2 : Arr 4 Int) (g : Nat → Bool) :
    (∃ (A : Arr 4 Int) (n : Int) (e : Nat), F40 s (i : Int) = some (A, n, (e : Int), false) ∧ G22 (.p4 s not_ t2 ⟨s, (i : Int), -1⟩ (sa g)) = some (Arr.rep 4 0, 0, 70, (e : Int))) ∨
    (∃ (g' : Nat → Bool) (n' : Nat) (e : Int), F40 s (i : Int) = some (sa g', (n' : Int), e, true) ∧ i < n' ∧ n' ≤ s.length ∧ G22 (.p4 s not_ t2 ⟨s, (i : Int), -1⟩ (sa g)) = G22 (.p3 s not_ false t2 ⟨s, (n' : Int), -1⟩ (sa fun x => g x || g' x))) := by
  rcases itm s hl hi with ⟨h38, h48, A, n, h40⟩ | ⟨g', c, n, hc, h38, h48, h40, h1, h2⟩ | ⟨c, n, v, hc, h38, h48, h45, hv1, hv2, h1, h2⟩
  · left
    refine ⟨A, n, i, h40, ?_⟩
    rw [G22.eq_4, h38, bs]
    simp only []
    rw [dt (by omega), p5_bad]
  · right
    refine ⟨g', n, _, h40, h1, h2, ?_⟩
    rw [G22.eq_4, h38, bs]
    simp only []
    rw [if_neg (by simp), if_neg (by simp), p8_ok]
  · have q1 : G40 (.p1 (c : Int) (n : Int) (Arr.rep 4 0)) = some (sa (one c), (n : Int), 0, true) := by
      rw [G40, f13_one c hc, bs]
    have q2 : G40 (.p2 (n : Int) (Arr.rep 4 0)) = some (Arr.rep 4 0, 0, ((n + 1 : Nat) : Int), false) := by
      rw [G40, wk1 n (by omega)]
    have s40 : ∀ R, (if decide (((n + 1 : Nat) : Int) ≥ (s.length : Int)) = true then G40 (.p1 (c : Int) (n : Int) (Arr.rep 4 0)) else
        (ix s (n : Int) >>= fun b50 => if ((b50.toNat : Int) != 45) = true then G40 (.p1 (c : Int) (n : Int) (Arr.rep 4 0)) else
          (ix s ((n + 1 : Nat) : Int) >>= fun b53 => if ((b53.toNat : Int) == 93) = true then G40 (.p1 (c : Int) (n : Int) (Arr.rep 4 0)) else
            (F48 s ((n + 1 : Nat) : Int) >>= fun r56 => if (!r56.2.2) = true then G40 (.p2 (n : Int) (Arr.rep 4 0)) else
              (if decide (r56.1 < (c : Int)) = true then G40 (.p2 (n : Int) (Arr.rep 4 0)) else
                (F21 (c : Int) r56.1 >>= fun r60 => some (r60, r56.2.1, 0, true))))))) = R → F40 s (i : Int) = R := fun R hR => by
      unfold F40
      rw [h45, bs, if_neg (by simpa using hv1), bs, if_neg (by simpa using hv2), h48, bs, if_neg (by simp), wk1 n (by omega)]
      exact hR
    have s22 : ∀ R, (if decide (((n + 1 : Nat) : Int) < (s.length : Int)) = true then
        (ix s (n : Int) >>= fun b66 => if ((b66.toNat : Int) == 45) = true then
          (ix s ((n + 1 : Nat) : Int) >>= fun b69 => if ((b69.toNat : Int) != 93) = true then
            (F38 ⟨s, ((n + 1 : Nat) : Int), -1⟩ >>= fun r78 => if decide (r78.2.bad < 0) = true then
              (if (!r78.1.one) = true then G22 (.p6 s not_ ((n + 1 : Nat) : Int) t2 r78.2 (sa g) ⟨sa (one c), (c : Int), true⟩ r78.1) else
                (if decide (r78.1.c < (c : Int)) = true then G22 (.p6 s not_ ((n + 1 : Nat) : Int) t2 r78.2 (sa g) ⟨sa (one c), (c : Int), true⟩ r78.1) else
                  G22 (.p7 s not_ t2 r78.2 (sa g) ⟨sa (one c), (c : Int), true⟩ r78.1)))
              else G22 (.p7 s not_ t2 r78.2 (sa g) ⟨sa (one c), (c : Int), true⟩ r78.1))
            else G22 (.p8 s not_ t2 ⟨s, (n : Int), -1⟩ (sa g) ⟨sa (one c), (c : Int), true⟩))
          else G22 (.p8 s not_ t2 ⟨s, (n : Int), -1⟩ (sa g) ⟨sa (one c), (c : Int), true⟩))
        else G22 (.p8 s not_ t2 ⟨s, (n : Int), -1⟩ (sa g) ⟨sa (one c), (c : Int), true⟩)) = R → G22 (.p4 s not_ t2 ⟨s, (i : Int), -1⟩ (sa g)) = R := fun R hR => by
      rw [G22.eq_4, h38, bs]
      simp only []
      rw [if_neg (by simp), if_pos (by simp), wk1 n (by omega)]
      exact hR
    have alone : (¬ ∃ d, s[n]? = some 45 ∧ s[n + 1]? = some d ∧ d.toNat ≠ 93) → ∃ (g' : Nat → Bool) (n' : Nat) (e : Int), F40 s (i : Int) = some (sa g', (n' : Int), e, true) ∧ i < n' ∧ n' ≤ s.length ∧ G22 (.p4 s not_ t2 ⟨s, (i : Int), -1⟩ (sa g)) = G22 (.p3 s not_ false t2 ⟨s, (n' : Int), -1⟩ (sa fun x => g x || g' x)) := fun hno => by
      refine ⟨one c, n, 0, s40 _ ?_, h1, h2, s22 _ ?_⟩
      · by_cases hlt : n + 1 < s.length
        · obtain ⟨d0, e0, e0'⟩ := at_lt (s := s) (k := n) (by omega)
          obtain ⟨d1, e1, e1'⟩ := at_lt hlt
          rw [df (by omega), e0', bs]
          by_cases k0 : d0.toNat = 45
          · have : d1.toNat = 93 := Classical.byContradiction fun k1 => hno ⟨d1, by rw [e0]; exact congrArg some (UInt8.toNat_inj.1 k0), e1, k1⟩
            rw [if_neg (by simp [k0]), e1', bs, if_pos (by simp [this]), q1]
          · rw [if_pos (by simp; omega), q1]
        · rw [dt (by omega), q1]
      · rw [p8_ok]
        by_cases hlt : n + 1 < s.length
        · obtain ⟨d0, e0, e0'⟩ := at_lt (s := s) (k := n) (by omega)
          obtain ⟨d1, e1, e1'⟩ := at_lt hlt
          rw [dt (by omega), e0', bs]
          by_cases k0 : d0.toNat = 45
          · have : d1.toNat = 93 := Classical.byContradiction fun k1 => hno ⟨d1, by rw [e0]; exact congrArg some (UInt8.toNat_inj.1 k0), e1, k1⟩
            rw [if_pos (by simp [k0]), e1', bs, if_neg (by simp [this])]
          · rw [if_neg (by simp; omega)]
        · rw [df (by omega)]
    by_cases hr : ∃ d, s[n]? = some 45 ∧ s[n + 1]? = some d ∧ d.toNat ≠ 93
    · obtain ⟨d, e0, e1, k1⟩ := hr
      have hlt : n + 1 < s.length := by
        rcases Nat.lt_or_ge (n + 1) s.length with h | h
        · exact h
        · rw [List.getElem?_eq_none h] at e1; cases e1
      rcases itm s hl hlt with ⟨k38, ⟨a, b, k48⟩, _⟩ | ⟨g2, c2, n2, hc2, k38, ⟨a, b, k48⟩, _, _, _⟩ | ⟨c2, n2, v2, hc2, k38, k48, _, _, _, m1, m2⟩
      · left
        refine ⟨Arr.rep 4 0, 0, n + 1, s40 _ ?_, s22 _ ?_⟩
        · rw [df (by omega), ixs e0, bs, if_neg (by decide), ixs e1, bs, if_neg (by simp; omega), k48, bs, if_pos (by simp), q2]
        · rw [dt (by omega), ixs e0, bs, if_pos (by decide), ixs e1, bs, if_pos (by simp; omega), k38, bs]
          simp only []
          rw [df (by omega)]
          exact p7_bad s not_ t2 _ (n + 1) _ _ _ c 0 hc (by omega) _ _
      · left
        refine ⟨Arr.rep 4 0, 0, n + 1, s40 _ ?_, s22 _ ?_⟩
        · rw [df (by omega), ixs e0, bs, if_neg (by decide), ixs e1, bs, if_neg (by simp; omega), k48, bs, if_pos (by simp), q2]
        · rw [dt (by omega), ixs e0, bs, if_pos (by decide), ixs e1, bs, if_pos (by simp; omega), k38, bs]
          simp only []
          rw [if_pos (by simp), if_pos (by simp)]
          exact p6_bad s not_ t2 _ (n + 1) _ _ _ c c2 hc hc2 _ _
      · by_cases hlt2 : c2 < c
        · left
          refine ⟨Arr.rep 4 0, 0, n + 1, s40 _ ?_, s22 _ ?_⟩
          · rw [df (by omega), ixs e0, bs, if_neg (by decide), ixs e1, bs, if_neg (by simp; omega), k48, bs, if_neg (by simp), if_pos (by simp; omega), q2]
          · rw [dt (by omega), ixs e0, bs, if_pos (by decide), ixs e1, bs, if_pos (by simp; omega), k38, bs]
            simp only []
            rw [if_pos (by simp), if_neg (by simp), dt (by omega)]
            exact p6_bad s not_ t2 _ (n + 1) _ _ _ c c2 hc hc2 _ _
        · right
          refine ⟨ran c c2, n2, 0, s40 _ ?_, by omega, m2, s22 _ ?_⟩
          · rw [df (by omega), ixs e0, bs, if_neg (by decide), ixs e1, bs, if_neg (by simp; omega), k48, bs, if_neg (by simp), if_neg (by simp; omega), f21_eq c c2 hc hc2, bs]
          · rw [dt (by omega), ixs e0, bs, if_pos (by decide), ixs e1, bs, if_pos (by simp; omega), k38, bs]
            simp only []
            rw [if_pos (by simp), if_neg (by simp), df (by omega), G22.eq_7]
            simp only []
            rw [f20_eq c c2 hc hc2, bs]
            exact p8_ok s not_ t2 n2 g (ran c c2) _ _
    · right
      exact alone hr

theorem brk (s : Str) (hl : s.length ≤ 1000000000000000) (not_ : Bool) (t2 t3 : Arr 4 Int) (fst : Nat) : ∀ (m i : Nat) (g : Nat → Bool) (first : Bool), s.length ≤ i + m → i ≤ s.length → (first = true → fst = i) → (first = false → fst < i) →
    ∃ v, G22 (.p3 s not_ first t2 ⟨s, (i : Int), -1⟩ (sa g)) = some v ∧ G23 (.p3 s (i : Int) not_ (fst : Int) t3 (sa g)) = some v := by
  have fin : ∀ (i : Nat) (g : Nat → Bool), i ≤ s.length → ∃ v, G22 (.p5 not_ t2 ⟨s, (i : Int), -1⟩ (sa g)) = some v ∧ (if not_ = true then (F30 (sa g) >>= fun r25 => G23 (.p4 (i : Int) t3 r25)) else G23 (.p4 (i : Int) t3 (sa g))) = some v := fun i g hle => by
    have w := wk1 i (by omega)
    cases not_ with
    | true =>
      refine ⟨(sa fun n => !g n, ((i + 1 : Nat) : Int), 0, 0), ?_, ?_⟩
      · rw [G22.eq_5, if_neg (by simp), if_pos rfl, f29_eq, bs, G22.eq_9, w]
      · rw [if_pos rfl, f30_eq, bs, G23.eq_4, w]
    | false =>
      refine ⟨(sa g, ((i + 1 : Nat) : Int), 0, 0), ?_, ?_⟩
      · rw [G22.eq_5, if_neg (by simp), if_neg (by simp), G22.eq_9, w]
      · rw [if_neg (by simp), G23.eq_4, w]
  have last : ∀ (i : Nat) (g : Nat → Bool) (first : Bool), s.length ≤ i → i ≤ s.length → ∃ v, G22 (.p3 s not_ first t2 ⟨s, (i : Int), -1⟩ (sa g)) = some v ∧ G23 (.p3 s (i : Int) not_ (fst : Int) t3 (sa g)) = some v := fun i g first h1 h2 => by
    have e : i = s.length := by omega
    subst e
    have p4 : G22 (.p4 s not_ t2 ⟨s, (s.length : Int), -1⟩ (sa g)) = some (Arr.rep 4 0, 0, 70, (s.length : Int)) := by
      have h38 : F38 ⟨s, (s.length : Int), -1⟩ = some (noItem, ⟨s, (s.length : Int), (s.length : Int)⟩) := by
        unfold F38
        simp only []
        rw [dt (by omega), f39_eq, bs]
      rw [G22.eq_4, h38, bs]
      simp only []
      rw [dt (by omega), p5_bad]
    refine ⟨_, ?_, by rw [G23.eq_3, df (by omega)]⟩
    rw [G22.eq_3]
    cases first with
    | true => rw [if_pos rfl, p4]
    | false => rw [if_neg (by simp)]; simp only []; rw [dt (by omega), p4]
  intro m
  induction m with
  | zero => exact fun i g first h1 h2 _ _ => last i g first (by omega) h2
  | succ m ih =>
    intro i g first h1 h2 hf hf'
    by_cases hi : i < s.length
    · obtain ⟨c, hc, hc'⟩ := at_lt hi
      by_cases hend : first = false ∧ c.toNat = 93
      · obtain ⟨v, v1, v2⟩ := fin i g h2
        have := hf' hend.1
        refine ⟨v, ?_, ?_⟩
        · rw [G22.eq_3, if_neg (by simp [hend.1])]
          simp only []
          rw [df (by omega), hc', bs, if_neg (by simp [hend.2]), v1]
        · rw [G23.eq_3, dt (by omega), hc', bs, if_pos (by simp [hend.2]), dt (by omega), v2]
      · have e22 : G22 (.p3 s not_ first t2 ⟨s, (i : Int), -1⟩ (sa g)) = G22 (.p4 s not_ t2 ⟨s, (i : Int), -1⟩ (sa g)) := by
          rw [G22.eq_3]
          cases first with
          | true => rw [if_pos rfl]
          | false =>
            have : c.toNat ≠ 93 := fun e => hend ⟨rfl, e⟩
            rw [if_neg (by simp)]
            simp only []
            rw [df (by omega), hc', bs, if_pos (by simp; omega)]
        have e23 : G23 (.p3 s (i : Int) not_ (fst : Int) t3 (sa g)) = G23 (.p5 s (i : Int) not_ (fst : Int) t3 (sa g)) := by
          rw [G23.eq_3, dt (by omega), hc', bs]
          cases first with
          | true =>
            have := hf rfl
            by_cases e : c.toNat = 93
            · rw [if_pos (by simp [e]), df (by omega)]
            · rw [if_neg (by simp; omega)]
          | false =>
            have : c.toNat ≠ 93 := fun e => hend ⟨rfl, e⟩
            rw [if_neg (by simp; omega)]
        rw [e22, e23, G23.eq_5]
        rcases stp s hl hi not_ t2 g with ⟨A, n, e, k1, k2⟩ | ⟨g', n', e, k1, k2, k3, k4⟩
        · refine ⟨_, k2, ?_⟩
          rw [k1, bs, if_pos (by simp)]
        · rw [k1, bs, if_neg (by simp), f28_eq, bs, k4]
          have hfst : fst < n' := by
            cases first with
            | true => have := hf rfl; omega
            | false => have := hf' rfl; omega
          exact ih n' _ false (by omega) k3 (by simp) (fun _ => hfst)
    · exact last i g first (by omega) h2
theorem brackets (s : Str) (hl : s.length ≤ 1000000000000000) : ∃ v, F22 s = some v ∧ F23 s = some v := by
  unfold F22 F23
  by_cases h0 : 0 < s.length
  · obtain ⟨c, hc, hc'⟩ := at_lt h0
    rw [dt (by omega), dt (by omega), show (0 : Int) = ((0 : Nat) : Int) from rfl, hc', bs, bs, G22.eq_1, G23.eq_1]
    by_cases h : ((c.toNat : Int) == 94) = true
    · rw [if_pos h, if_pos h, G22.eq_2, G23.eq_2]
      exact brk s hl _ _ _ 1 s.length 1 (fun _ => false) true (by omega) (by omega) (fun _ => rfl) (by simp)
    · rw [if_neg h, if_neg h, G22.eq_2, G23.eq_2]
      exact brk s hl _ _ _ 0 s.length 0 (fun _ => false) true (by omega) (by omega) (fun _ => rfl) (by simp)
  · rw [df (by omega), df (by omega), G22.eq_1, G23.eq_1, if_neg (by simp), if_neg (by simp), G22.eq_2, G23.eq_2]
    exact brk s hl _ _ _ 0 s.length 0 (fun _ => false) true (by omega) (by omega) (fun _ => rfl) (by simp)

theorem pureSetsBrackets (a0 : Str) (w0 : a0.length ≤ 140737488351232) : F4 a0 = some true := by
  obtain ⟨v, h1, h2⟩ := brackets a0 (by omega)
  unfold F4
  rw [h1, bs, h2, bs, f11_eq, bs, if_pos rfl, if_pos (decide_eq_true rfl), if_pos (beq_self_eq_true _), if_pos (beq_self_eq_true _), beq_self_eq_true]
end Go.Proofs.Ytfjdegohjnejkaa
