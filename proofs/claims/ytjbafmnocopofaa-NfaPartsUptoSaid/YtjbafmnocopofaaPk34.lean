/-
  Texts of this proof, put together: NfP2, NfP3, Fu, Fu2, PureParts.
-/
import Derived.Test.YtjbafmnocopofaaPk33
import Derived.KernelRfl
import Derived.Test.YtjbafmnocopofaaPk31
section
/-
  Nfa: a tree's program is the same at every place; one behind the other, one or the other.
-/

namespace Go.Proofs.Ytjbafmnocopofaa
open Go AW
set_option linter.unusedVariables false
set_option linter.unusedSimpArgs false
set_option linter.unusedSectionVars false
set_option maxHeartbeats 4000000
/-- Its program is the same wherever it lies. -/
def Sk (k : T27) : Prop := ∀ a a' fr fr', SmL (sz k) a a' (cd k a fr) (cd k a' fr')
theorem clr_sm (l : Int × Int) (m a a' : Nat) : SmL m a a' (clr l) (clr l) := by
  unfold clr
  split
  · exact .cons (sm_same ⟨by show (6 : Int) ≠ 2; decide, by show (6 : Int) ≠ 3; decide⟩) .nil
  · exact .nil
theorem cdl_sm : ∀ (l : List T27), (∀ k ∈ l, Sk k) → ∀ (o M a a' fr fr' : Nat), o + szl l ≤ M → SmL M a a' (cdl l (a + o) fr) (cdl l (a' + o) fr')
  | [], _, o, M, a, a', fr, fr', h => by rw [cdl, cdl]; exact .nil
  | x :: l, hk, o, M, a, a', fr, fr', h => by
    rw [szl] at h
    rw [cdl, cdl, Nat.add_assoc, Nat.add_assoc]
    exact .app ((hk x (by simp) (a + o) (a' + o) fr fr').mono (by omega)) (cdl_sm l (fun k h => hk k (by simp [h])) (o + sz x) M a a' fr fr' (by omega))
theorem all_one (x : T27) (e a fr : Nat) : all [x] e a fr = cd x a fr := by rw [all, if_pos (show ([] : List T27).isEmpty = true from rfl)]
theorem all_cons (x y : T27) (l : List T27) (e a fr : Nat) : all (x :: y :: l) e a fr = iTo 2 ((a + sz x + 2 : Nat) : Int) :: (cd x (a + 1) fr ++ iTo 3 e :: all (y :: l) e (a + sz x + 2) fr) := by rw [all, if_neg (by simp)]
theorem all_sm : ∀ (l : List T27), (∀ k ∈ l, Sk k) → ∀ (e o M a a' fr fr' : Nat), e ≤ M → o + szl l + 2 * (l.length - 1) ≤ M → SmL M a a' (all l (a + e) (a + o) fr) (all l (a' + e) (a' + o) fr')
  | [], _, e, o, M, a, a', fr, fr', he, h => by rw [all, all]; exact .nil
  | [x], hk, e, o, M, a, a', fr, fr', he, h => by
    have e1 : szl [x] = sz x := by simp [szl]
    rw [e1] at h
    rw [all_one, all_one]
    exact (hk x (by simp) (a + o) (a' + o) fr fr').mono (by simp at h; omega)
  | x :: y :: l, hk, e, o, M, a, a', fr, fr', he, h => by
    have e1 : szl (x :: y :: l) = sz x + szl (y :: l) := by rw [szl]
    rw [e1] at h
    simp only [List.length_cons] at h
    rw [all_cons, all_cons]
    refine .cons (sm_to (t := o + sz x + 2) 2 (by omega) (by omega) (by omega)) (.app ?_ (.cons (sm_to (t := e) 3 he rfl rfl) ?_))
    · rw [Nat.add_assoc, Nat.add_assoc]
      exact (hk x (by simp) (a + (o + 1)) (a' + (o + 1)) fr fr').mono (by omega)
    · have := all_sm (y :: l) (fun k h => hk k (by simp at h ⊢; exact .inr h)) e (o + sz x + 2) M a a' fr fr' he (by simp only [List.length_cons]; omega)
      have e2 : a + (o + sz x + 2) = a + o + sz x + 2 := by omega
      have e3 : a' + (o + sz x + 2) = a' + o + sz x + 2 := by omega
      rw [e2, e3] at this
      exact this
section
variable {k : T27} (hS : Sk k) (hk : Kd k)
include hS hk
theorem rnd_sm (o M a a' fr fr' : Nat) (h : o + rsz k ≤ M) : SmL M a a' (rnd (cd k) (lh k) (a + o) fr) (rnd (cd k) (lh k) (a' + o) fr') := by
  have hr := clr_of hk
  unfold rnd
  refine .app (clr_sm _ _ _ _) ?_
  rw [Nat.add_assoc, Nat.add_assoc]
  exact (hS (a + (o + (clr (lh k)).length)) (a' + (o + (clr (lh k)).length)) fr fr').mono (by omega)
theorem frd_sm (o M a a' fr fr' : Nat) (h : o + rsz k + 2 ≤ M) : SmL M a a' (frd (cd k) (lh k) (a + o) fr) (frd (cd k) (lh k) (a' + o) fr') := by
  unfold frd
  refine .cons (sm_sl 7 _ _ (by decide)) (.app ?_ (.cons (sm_sl 8 _ _ (by decide)) .nil))
  exact rnd_sm hS hk (o + 1) M a a' (fr + 1) (fr' + 1) (by omega)
theorem mins_sm (M a a' fr fr' : Nat) : ∀ (m o : Nat), o + m * rsz k ≤ M → SmL M a a' (mins (cd k) (lh k) (rsz k) fr m (a + o)) (mins (cd k) (lh k) (rsz k) fr' m (a' + o))
  | 0, o, h => by rw [mins, mins]; exact .nil
  | m + 1, o, h => by
    rw [Nat.add_mul, Nat.one_mul] at h
    rw [mins, mins]
    refine .app (rnd_sm hS hk o M a a' fr fr' (by omega)) ?_
    rw [Nat.add_assoc, Nat.add_assoc]
    exact mins_sm M a a' fr fr' m (o + rsz k) (by omega)
theorem opts_sm (M a a' fr fr' e : Nat) (he : e ≤ M) : ∀ (m o : Nat), o + m * (rsz k + 3) ≤ M → SmL M a a' (opts (cd k) (lh k) (rsz k) fr (a + e) m (a + o)) (opts (cd k) (lh k) (rsz k) fr' (a' + e) m (a' + o))
  | 0, o, h => by rw [opts, opts]; exact .nil
  | m + 1, o, h => by
    rw [Nat.add_mul, Nat.one_mul] at h
    rw [opts, opts]
    refine .cons (sm_to (t := e) 2 he rfl rfl) (.app (frd_sm hS hk (o + 1) M a a' fr fr' (by omega)) ?_)
    have := opts_sm M a a' fr fr' e he m (o + rsz k + 3) (by omega)
    have e2 : a + (o + rsz k + 3) = a + o + rsz k + 3 := by omega
    have e3 : a' + (o + rsz k + 3) = a' + o + rsz k + 3 := by omega
    rw [e2, e3] at this
    exact this
theorem repc_sm (mn mx : Int) (a a' fr fr' : Nat) : SmL (mn.toNat * rsz k + if mx = -1 then rsz k + 4 else (mx - mn).toNat * (rsz k + 3)) a a' (repc (cd k) (lh k) (rsz k) mn mx a fr) (repc (cd k) (lh k) (rsz k) mn mx a' fr') := by
  unfold repc
  refine .app (mins_sm hS hk _ a a' fr fr' mn.toNat 0 (by omega)) ?_
  by_cases hx : mx = -1
  · rw [if_pos hx, if_pos hx, if_pos hx]
    refine .cons (sm_to (t := mn.toNat * rsz k + rsz k + 4) 2 (by omega) (by omega) (by omega)) (.app ?_ (.cons (sm_to (t := mn.toNat * rsz k) 3 (by omega) (by omega) (by omega)) .nil))
    rw [Nat.add_assoc, Nat.add_assoc]
    exact frd_sm hS hk (mn.toNat * rsz k + 1) _ a a' fr fr' (by omega)
  · rw [if_neg hx, if_neg hx, if_neg hx]
    rw [Nat.add_assoc, Nat.add_assoc]
    exact opts_sm hS hk _ a a' fr fr' (mn.toNat * rsz k + (mx - mn).toNat * (rsz k + 3)) (Nat.le_refl _) (mx - mn).toNat (mn.toNat * rsz k) (Nat.le_refl _)
end
theorem cd_sm : ∀ (n : T27) (b : Nat), cnt n ≤ 100000 → good n b → Sk n := by
  intro n
  induction n using tree_ind with
  | h n ih =>
    intro b hc hg a a' fr fr'
    rw [good_eq] at hg
    have ih' : ∀ k ∈ ls n.Kids, Sk k := fun k hk => by
      obtain ⟨b', hb'⟩ := goodl_mem hg.2 hk
      exact ih k hk b' (by have := cnt_kid hk; omega) hb'
    rw [cd_eq, cd_eq, sz_eq]
    rcases pl_kids hg.1.1 with ⟨h, hk⟩ | ⟨h, hm, hk⟩ | ⟨h, hk⟩ | ⟨h, hk⟩
    · rcases h with h | h
      · simp (config := {decide := true}) only [h, if_true, if_false]
        exact cdl_sm _ ih' 0 _ a a' fr fr' (by omega)
      · simp (config := {decide := true}) only [h, if_true, if_false]
        rw [Nat.add_assoc, Nat.add_assoc]
        exact all_sm _ ih' (szl (ls n.Kids) + 2 * ((ls n.Kids).length - 1)) 0 _ a a' fr fr' (Nat.le_refl _) (by omega)
    · obtain ⟨k, hk⟩ : ∃ k, ls n.Kids = [k] := List.length_eq_one_iff.1 hk
      have hkm : k ∈ ls n.Kids := by simp [hk]
      have hck := cnt_kid hkm
      obtain ⟨b', hgk⟩ := goodl_mem hg.2 hkm
      have hkd : Kd k := ⟨compile k b' (by omega) hgk, cd_len k b' (by omega) hgk, (f38 (by omega) hgk).1, clr_len (by omega) hgk⟩
      simp (config := {decide := true}) only [h, if_true, if_false]
      have e1 : szl [k] = sz k := by simp [szl]
      have e2 : gcntl [k] = gcnt k := by simp [gcntl]
      rw [hk, rpl, rpl, e1, e2]
      exact repc_sm (ih' k hkm) hkd n.Min n.Max a a' fr fr'
    · obtain ⟨k, hk⟩ : ∃ k, ls n.Kids = [k] := List.length_eq_one_iff.1 hk
      have hkm : k ∈ ls n.Kids := by simp [hk]
      simp (config := {decide := true}) only [h, if_true, if_false]
      have e1 : szl [k] = sz k := by simp [szl]
      rw [hk, chl, chl, e1]
      exact .cons (sm_same ⟨by show (4 : Int) ≠ 2; decide, by show (4 : Int) ≠ 3; decide⟩) (.app ((ih' k hkm (a + 1) (a' + 1) fr fr').mono (by omega)) (.cons (sm_same ⟨by show (5 : Int) ≠ 2; decide, by show (5 : Int) ≠ 3; decide⟩) .nil))
    · rcases h with h | h | h | h | h <;> simp (config := {decide := true}) only [h, if_true, if_false]
      · exact .nil
      · exact .cons (sm_same ⟨by show (1 : Int) ≠ 2; decide, by show (1 : Int) ≠ 3; decide⟩) .nil
      · exact .cons (sm_same ⟨by show (9 : Int) ≠ 2; decide, by show (9 : Int) ≠ 3; decide⟩) .nil
      · exact .cons (sm_same ⟨by show (10 : Int) ≠ 2; decide, by show (10 : Int) ≠ 3; decide⟩) .nil
      · exact .cons (sm_same ⟨by show (11 : Int) ≠ 2; decide, by show (11 : Int) ≠ 3; decide⟩) .nil
/-! ### One behind the other, one or the other -/
theorem seg_cat {C A B : List T52} {s : Str} {a n m : Nat} (hA : At C a A) (hAs : SmL n a a A A) (hAl : A.length = n) (hB : At C (a + n) B) (hBs : SmL m (a + n) (a + n) B B) (hBl : B.length = m) {q q' : Nat} :
    Seg C s a (n + m) q q' ↔ ∃ r, Seg C s a n q r ∧ Seg C s (a + n) m r q' := by
  constructor
  · intro h
    have key : ∀ q' j, InP C s a (n + m) q a q' j → (j ≤ a + n ∧ InP C s a n q a q' j) ∨ (a + n ≤ j ∧ ∃ r, Seg C s a n q r ∧ InP C s (a + n) m r (a + n) q' j) := by
      intro q' j h
      induction h with
      | refl => exact .inl ⟨by omega, .refl⟩
      | @step q1 i q2 j _ h1 h2 h3 ih =>
        have fromB : (∃ r, Seg C s a n q r ∧ InP C s (a + n) m r (a + n) q1 i) → a + n ≤ i → (j ≤ a + n ∧ InP C s a n q a q2 j) ∨ (a + n ≤ j ∧ ∃ r, Seg C s a n q r ∧ InP C s (a + n) m r (a + n) q2 j) := by
          rintro ⟨r, hr, hp⟩ hi
          have := stay hB hBs hBl hi (by omega) h3
          exact .inr ⟨this.1, r, hr, .step hp hi (by omega) h3⟩
        rcases ih with ⟨hi, hp⟩ | ⟨hi, hp⟩
        · by_cases e : i = a + n
          · subst e; exact fromB ⟨q1, hp, .refl⟩ (Nat.le_refl _)
          · have := stay hA hAs hAl h1 (by omega) h3
            exact .inl ⟨this.2, .step hp h1 (by omega) h3⟩
        · exact fromB hp hi
    rcases key _ _ h with ⟨hj, hp⟩ | ⟨hj, r, hr, hp⟩
    · obtain rfl : m = 0 := by omega
      exact ⟨q', hp, .refl⟩
    · refine ⟨r, hr, ?_⟩
      unfold Seg
      rw [show a + n + m = a + (n + m) by omega]
      exact hp
  · rintro ⟨r, hr, hp⟩
    have h1 : InP C s a (n + m) q a r (a + n) := hr.sub (Nat.le_refl _) (by omega)
    have h2 : InP C s a (n + m) r (a + n) q' (a + n + m) := hp.sub (by omega) (by omega)
    unfold Seg
    rw [show a + (n + m) = a + n + m by omega]
    exact h1.trans h2
theorem seg_alt {C A B : List T52} {s : Str} {n m : Nat} (h0 : C[0]? = some (iTo 2 ((n + 2 : Nat) : Int))) (hA : At C 1 A) (hAs : SmL n 1 1 A A) (hAl : A.length = n) (hj : C[n + 1]? = some (iTo 3 ((n + m + 2 : Nat) : Int))) (hB : At C (n + 2) B) (hBs : SmL m (n + 2) (n + 2) B B) (hBl : B.length = m) {q q' : Nat} :
    Seg C s 0 (n + m + 2) q q' ↔ Seg C s 1 n q q' ∨ Seg C s (n + 2) m q q' := by
  have s0 : ∀ q1 q2 j, stp C s q1 0 q2 j ↔ q2 = q1 ∧ (j = 1 ∨ j = n + 2) := by
    intro q1 q2 j
    unfold stp eps
    rw [h0]
    have hh : ¬ hit C s q1 0 = true := hit_ne h0 (by show (2 : Int) ≠ 1; decide)
    simp [hh]
    intro _; omega
  have s1 : ∀ q1 q2 j, stp C s q1 (n + 1) q2 j ↔ q2 = q1 ∧ j = n + m + 2 := by
    intro q1 q2 j
    unfold stp eps
    rw [hj]
    have hh : ¬ hit C s q1 (n + 1) = true := hit_ne hj (by show (3 : Int) ≠ 1; decide)
    simp [hh]
    intro _; omega
  constructor
  · intro h
    have key : ∀ q' j, InP C s 0 (n + m + 2) q 0 q' j → (j = 0 ∧ q' = q) ∨ (1 ≤ j ∧ j ≤ n + 1 ∧ InP C s 1 n q 1 q' j) ∨ (n + 2 ≤ j ∧ InP C s (n + 2) m q (n + 2) q' j) ∨ (j = n + m + 2 ∧ Seg C s 1 n q q') := by
      intro q' j h
      induction h with
      | refl => exact .inl ⟨rfl, rfl⟩
      | @step q1 i q2 j _ h1 h2 h3 ih =>
        rcases ih with ⟨rfl, rfl⟩ | ⟨i1, i2, hp⟩ | ⟨i1, hp⟩ | ⟨rfl, hp⟩
        · obtain ⟨rfl, rfl | rfl⟩ := (s0 _ _ _).1 h3
          · exact .inr (.inl ⟨by omega, by omega, .refl⟩)
          · exact .inr (.inr (.inl ⟨by omega, .refl⟩))
        · by_cases e : i = n + 1
          · subst e
            obtain ⟨rfl, rfl⟩ := (s1 _ _ _).1 h3
            refine .inr (.inr (.inr ⟨rfl, ?_⟩))
            unfold Seg
            rw [Nat.add_comm 1 n]
            exact hp
          · have := stay hA hAs hAl i1 (by omega) h3
            exact .inr (.inl ⟨this.1, by omega, .step hp i1 (by omega) h3⟩)
        · have := stay hB hBs hBl i1 (by omega) h3
          exact .inr (.inr (.inl ⟨this.1, .step hp i1 (by omega) h3⟩))
        · omega
    rcases key _ _ h with ⟨h, _⟩ | ⟨_, h, _⟩ | ⟨_, hp⟩ | ⟨_, hp⟩
    · omega
    · omega
    · right
      unfold Seg
      rw [show n + 2 + m = 0 + (n + m + 2) by omega]
      exact hp
    · exact .inl hp
  · rintro (h | h)
    · have h1 : InP C s 0 (n + m + 2) q 1 q' (1 + n) := h.sub (by omega) (by omega)
      have h2 : InP C s 0 (n + m + 2) q 0 q 1 := .step .refl (by omega) (by omega) ((s0 _ _ _).2 ⟨rfl, .inl rfl⟩)
      unfold Seg
      rw [Nat.zero_add]
      rw [Nat.add_comm 1 n] at h1
      exact .step (h2.trans h1) (by omega) (by omega) ((s1 _ _ _).2 ⟨rfl, rfl⟩)
    · have h1 : InP C s 0 (n + m + 2) q (n + 2) q' (n + 2 + m) := h.sub (by omega) (by omega)
      have h2 : InP C s 0 (n + m + 2) q 0 q (n + 2) := .step .refl (by omega) (by omega) ((s0 _ _ _).2 ⟨rfl, .inr rfl⟩)
      unfold Seg
      rw [show 0 + (n + m + 2) = n + 2 + m by omega]
      exact h2.trans h1
end Go.Proofs.Ytjbafmnocopofaa
end
section
/-
  Nfa: an expression's program run: where a match may end, and how that goes with one behind the other, one or the other.
-/


namespace Go.Proofs.Ytjbafmnocopofaa
open Go AW
set_option linter.unusedVariables false
set_option linter.unusedSimpArgs false
set_option linter.unusedSectionVars false
set_option maxHeartbeats 4000000
theorem stp_le {C : List T52} {s : Str} {q i q' j : Nat} (h : stp C s q i q' j) : q ≤ q' := by
  rcases h with ⟨rfl, _⟩ | ⟨rfl, _, _⟩ <;> omega
theorem inp_le {C : List T52} {s : Str} {a m q0 i0 q i : Nat} (h : InP C s a m q0 i0 q i) : q0 ≤ q := by
  induction h with
  | refl => exact Nat.le_refl _
  | step _ _ _ h ih => have := stp_le h; omega
/-- From where to where the program of a tree goes. -/
def segn (n : T27) (s : Str) (i j : Nat) : Prop := Seg (ls (prg n).Code) s 0 (sz n) i j
theorem sorted_eq : ∀ {l m : List Nat}, l.Pairwise (· < ·) → m.Pairwise (· < ·) → (∀ x, x ∈ l ↔ x ∈ m) → l = m
  | [], [], _, _, _ => rfl
  | [], y :: m, _, _, h => by have := (h y).2 (by simp); simp at this
  | x :: l, [], _, _, h => by have := (h x).1 (by simp); simp at this
  | x :: l, y :: m, hl, hm, h => by
    rw [List.pairwise_cons] at hl hm
    have hxy : x = y := by
      have h1 := (h x).1 (by simp)
      have h2 := (h y).2 (by simp)
      rcases List.mem_cons.1 h1 with e | h1
      · exact e
      · rcases List.mem_cons.1 h2 with e | h2
        · exact e.symm
        · have := hl.1 y h2; have := hm.1 x h1; omega
    subst hxy
    rw [sorted_eq hl.2 hm.2 fun z => ?_]
    constructor
    · intro hz
      rcases List.mem_cons.1 ((h z).1 (by simp [hz])) with e | e
      · have := hl.1 z hz; omega
      · exact e
    · intro hz
      rcases List.mem_cons.1 ((h z).2 (by simp [hz])) with e | e
      · have := hm.1 z hz; omega
      · exact e
structure Gd (n : T27) : Prop where
  g : good n 0
  c : cnt n ≤ 8192
  s : sz n < 16384
theorem Gd.len {n : T27} (h : Gd n) (a fr : Nat) : (cd n a fr).length = sz n := cd_len n 0 (by have := h.c; omega) h.g a fr
open Classical in
theorem acc_iff {C : List T52} {s : Str} {fr q : Nat} : acc C s fr q = true ↔ Cf C s fr q (C.length - 1) := by unfold acc; exact decide_eq_true_iff
theorem en_seg {n : T27} (h : Gd n) {s : Str} {i j : Nat} : j ∈ EN (prg n) s i ↔ j ≤ s.length ∧ segn n s i j := by
  have hl := h.len 0 0
  have hc : ls (prg n).Code = cd n 0 0 ++ [ik 12] := rfl
  have hlen : (ls (prg n).Code).length - 1 = (cd n 0 0).length := by rw [hc]; simp
  unfold EN
  rw [List.mem_filter, List.mem_range'_1, acc_iff, hlen, cf_inp hc]
  unfold segn Seg
  rw [Nat.zero_add, hl]
  constructor
  · rintro ⟨h1, h2⟩; exact ⟨by omega, h2⟩
  · rintro ⟨h1, h2⟩; have := inp_le h2; exact ⟨by omega, h2⟩
theorem at_prg (n : T27) : At (ls (prg n).Code) 0 (cd n 0 0) := fun i x hx => by
  show (cd n 0 0 ++ [ik 12])[0 + i]? = some x
  rw [Nat.zero_add, List.getElem?_append_left (ge_lt hx)]
  exact hx
theorem at_app {C A B : List T52} {a : Nat} (h : At C a (A ++ B)) : At C a A ∧ At C (a + A.length) B := ⟨fun i x hx => h i x (by rw [List.getElem?_append_left (ge_lt hx)]; exact hx), fun i x hx => by
  rw [Nat.add_assoc]
  exact h (A.length + i) x (by rw [List.getElem?_append_right (by omega), Nat.add_sub_cancel_left]; exact hx)⟩
theorem at_cons {C A : List T52} {a : Nat} {y : T52} (h : At C a (y :: A)) : C[a]? = some y ∧ At C (a + 1) A := ⟨h 0 y rfl, fun i x hx => by
  rw [Nat.add_assoc, Nat.add_comm 1 i]
  exact h (i + 1) x (by simpa using hx)⟩
abbrev catN (a b : T27) : T27 := { Kind := 3, Set := (Arr.rep 4 0), Min := 0, Max := 0, Group := 0, Kids := some [a, b] }
abbrev altN (a b : T27) : T27 := { Kind := 4, Set := (Arr.rep 4 0), Min := 0, Max := 0, Group := 0, Kids := some [a, b] }
theorem seg_part {C : List T52} {n : T27} (hn : Gd n) {a fr : Nat} (h : At C a (cd n a fr)) {s : Str} {q q' : Nat} : Seg C s a (sz n) q q' ↔ segn n s q q' :=
  seg_sm h (at_prg n) (cd_sm n 0 (by have := hn.c; omega) hn.g a 0 fr 0) (hn.len a fr)
theorem segn_cat {a b : T27} (ha : Gd a) (hb : Gd b) {s : Str} {q q' : Nat} : segn (catN a b) s q q' ↔ ∃ r, segn a s q r ∧ segn b s r q' := by
  have hsz : sz (catN a b) = sz a + sz b := by
    rw [sz_eq]; simp (config := {decide := true}) only [if_true, if_false, catN]
    show szl [a, b] = _
    simp [szl]
  have hcd : cd (catN a b) 0 0 = cd a 0 0 ++ cd b (sz a) 0 := by
    rw [cd_eq]; simp (config := {decide := true}) only [if_true, if_false, catN]
    show cdl [a, b] 0 0 = _
    simp [cdl]
  have hAt := at_prg (catN a b)
  rw [hcd] at hAt
  obtain ⟨h1, h2⟩ := at_app hAt
  rw [ha.len] at h2
  rw [Nat.zero_add] at h2
  have sa := cd_sm a 0 (by have := ha.c; omega) ha.g
  have sb := cd_sm b 0 (by have := hb.c; omega) hb.g
  rw [show segn (catN a b) s q q' ↔ Seg (ls (prg (catN a b)).Code) s 0 (sz a + sz b) q q' from by unfold segn; rw [hsz]]
  rw [seg_cat h1 (sa 0 0 0 0) (ha.len 0 0) (by rw [Nat.zero_add]; exact h2) (by rw [Nat.zero_add]; exact sb (sz a) (sz a) 0 0) (hb.len _ _)]
  constructor
  · rintro ⟨r, k1, k2⟩
    rw [Nat.zero_add] at k2
    exact ⟨r, (seg_part ha h1).1 k1, (seg_part hb h2).1 k2⟩
  · rintro ⟨r, k1, k2⟩
    refine ⟨r, (seg_part ha h1).2 k1, ?_⟩
    rw [Nat.zero_add]
    exact (seg_part hb h2).2 k2
theorem segn_alt {a b : T27} (ha : Gd a) (hb : Gd b) {s : Str} {q q' : Nat} : segn (altN a b) s q q' ↔ segn a s q q' ∨ segn b s q q' := by
  have hsz : sz (altN a b) = sz a + sz b + 2 := by
    rw [sz_eq]; simp (config := {decide := true}) only [if_true, if_false, altN]
    show szl [a, b] + 2 * (2 - 1) = _
    simp [szl]
  have hcd : cd (altN a b) 0 0 = iTo 2 ((sz a + 2 : Nat) : Int) :: (cd a 1 0 ++ iTo 3 ((sz a + sz b + 2 : Nat) : Int) :: cd b (sz a + 2) 0) := by
    rw [cd_eq]; simp (config := {decide := true}) only [if_true, if_false, altN]
    show all [a, b] (0 + szl [a, b] + 2 * (2 - 1)) 0 0 = _
    have : 0 + szl [a, b] + 2 * (2 - 1) = sz a + sz b + 2 := by simp [szl]
    rw [this, all_cons, all_one, Nat.zero_add, Nat.zero_add]
  have hAt := at_prg (altN a b)
  rw [hcd] at hAt
  obtain ⟨h0, h1⟩ := at_cons hAt
  rw [Nat.zero_add] at h1
  obtain ⟨hA, h2⟩ := at_app h1
  rw [ha.len] at h2
  obtain ⟨hj, hB⟩ := at_cons h2
  rw [Nat.add_comm 1 (sz a)] at hj hB
  have sa := cd_sm a 0 (by have := ha.c; omega) ha.g
  have sb := cd_sm b 0 (by have := hb.c; omega) hb.g
  rw [show segn (altN a b) s q q' ↔ Seg (ls (prg (altN a b)).Code) s 0 (sz a + sz b + 2) q q' from by unfold segn; rw [hsz]]
  rw [seg_alt h0 hA (sa 1 1 0 0) (ha.len _ _) hj hB (sb _ _ 0 0) (hb.len _ _), seg_part ha hA, seg_part hb hB]
/-! ### The law's run -/
theorem f14 (n : T27) : (Gd n ∧ ∀ (s : Str) (fr : Int), s.length ≤ 100000000 → F14 n s fr = some (if flt (prg n) ≠ 0 then (none, false) else if fr < 0 ∨ (s.length : Int) < fr then (none, false) else (so (ints (EN (prg n) s fr.toNat)), true))) ∨ (∀ (s : Str) (fr : Int), F14 n s fr = some (none, false)) := by
  obtain ⟨r, hr, w, hw, h1, h2, h3⟩ := f10 n
  by_cases h0 : w.2 = 0
  · left
    obtain ⟨hg, hc, hs, _, hp⟩ := h3 h0
    refine ⟨⟨hg, hc, hs⟩, fun s fr hsl => ?_⟩
    unfold F14
    rw [hr, sm, nfi (by omega), hp, f17 _ hsl, sm]
    by_cases e1 : flt (prg n) ≠ 0
    · rw [if_pos e1, if_pos e1]
      have : (flt (prg n) == 0) = false := by simpa using e1
      simp only [this]
    · rw [if_neg e1, if_neg e1]
      by_cases e2 : fr < 0 ∨ (s.length : Int) < fr
      · rw [if_pos e2, if_pos e2]; rfl
      · rw [if_neg e2, if_neg e2]; rfl
  · right
    intro s fr
    unfold F14
    rw [hr, sm, nti (by omega)]
/-! ### Groups by the reference -/
theorem g13_2 (n : T27) (hl : (ls n.Kids).length ≤ 10000000) (ih : ∀ k ∈ ls n.Kids, G13 (.e k) = some (gcnt k : Int)) : ∀ (m i c : Nat), m + i = (ls n.Kids).length → c + gcntl ((ls n.Kids).drop i) ≤ 100000000 → G13 (.p2 (c : Int) n.Kids ((ls n.Kids).length : Int) (i : Int)) = some ((c + gcntl ((ls n.Kids).drop i) : Nat) : Int)
  | 0, i, c, h, hc => by rw [G13.eq_3, dfi (by omega), List.drop_of_length_le (by omega), gcntl]; rfl
  | m + 1, i, c, h, hc => by
    obtain ⟨k, hk⟩ := get_ex (ls n.Kids) (i := i) (by omega)
    rw [drop_cons hk, gcntl] at hc ⊢
    rw [G13.eq_3, dti (by omega), ixs hk, sm, ih k (List.mem_of_getElem? hk), sm, wn1 i (by omega), wi _ (by omega) (by omega)]
    have := g13_2 n hl ih m (i + 1) (c + gcnt k) (by omega) (by omega)
    rw [← Nat.add_assoc]
    exact this
theorem g13 : ∀ n : T27, cnt n ≤ 10000000 → G13 (.e n) = some (gcnt n : Int) := by
  intro n
  induction n using tree_ind with
  | h n ih =>
    intro hc
    have h1 := cnt_eq n
    have h2 := cntl_len (ls n.Kids)
    have h3 := gcntl_le (ls n.Kids)
    have ih' : ∀ k ∈ ls n.Kids, G13 (.e k) = some (gcnt k : Int) := fun k hk => ih k hk (by have := cnt_kid hk; omega)
    have key := fun (c : Nat) (hc' : c + gcntl (ls n.Kids) ≤ 100000000) => g13_2 n (by omega) ih' (ls n.Kids).length 0 c (by omega) (by rw [List.drop_zero]; exact hc')
    rw [G13.eq_1, gcnt_eq]
    by_cases h6 : n.Kind = 6
    · rw [eti h6, if_pos h6, G13.eq_2]
      have := key 1 (by omega)
      rw [List.drop_zero] at this
      exact this
    · rw [efi h6, if_neg h6, G13.eq_2]
      have := key 0 (by omega)
      rw [List.drop_zero] at this
      exact this
/-! ### Lists compared -/
theorem g15 (l : List Int) (hl : l.length ≤ 1000000000) (a : Sl Int) (ha : ls a = l) : ∀ (m i : Nat), m + i = l.length → G15 (.p1 a a (i : Int)) = some true
  | 0, i, h => by rw [G15.eq_1, dfi (by rw [ha]; omega)]
  | m + 1, i, h => by
    obtain ⟨x, hx⟩ := get_ex l (i := i) (by omega)
    rw [G15.eq_1, dti (by rw [ha]; omega), ha, ixs hx, sm, sm, nfi rfl, wn1 i (by omega), g15 l hl a ha m (i + 1) (by omega)]
theorem f15 (l : List Int) (hl : l.length ≤ 1000000000) : F15 (so l) (so l) = some true := by
  unfold F15
  rw [nfi rfl]
  exact g15 l hl (so l) (ls_so l) l.length 0 (by omega)
end Go.Proofs.Ytjbafmnocopofaa
end
section
/-
  Twins with fuel of printed functions: closed runs are run by the kernel.
-/

namespace Go.Proofs.Ytjbafmnocopofaa
open Go AW
set_option linter.unusedVariables false
set_option linter.unusedSimpArgs false
set_option maxRecDepth 100000
set_option maxHeartbeats 4000000
def Le {α : Type} (x y : Option α) : Prop := ∀ r, x = some r → y = some r
theorem le_refl {α : Type} (x : Option α) : Le x x := fun _ h => h
theorem le_none {α : Type} (x : Option α) : Le none x := fun _ h => by cases h
theorem le_bind {α β : Type} {x y : Option α} {f g : α → Option β} (h : Le x y) (h' : ∀ v, Le (f v) (g v)) : Le (x >>= f) (y >>= g) := fun r e => by
  obtain ⟨v, e1, e2⟩ := bind_some e
  rw [h v e1]; exact h' v r e2
theorem le_ite {α : Type} {c : Prop} [Decidable c] {x y x' y' : Option α} (h : Le x x') (h' : Le y y') : Le (if c then x else y) (if c then x' else y') := fun r e => by
  by_cases k : c
  · rw [if_pos k] at e ⊢; exact h r e
  · rw [if_neg k] at e ⊢; exact h' r e
noncomputable def HG31 (fu : Nat)  : St31 → Option Bool := fun st => match st with
 | .p1 n kids want =>
  (if (kids == want) = true then
   (if (n.Kind == 2) = true then
    (if (n.Kind == 5) = true then
     (if (n.Kind == 6) = true then
      (some true)
     else
      (if (n.Kind == 7) = true then
       (some true)
      else
       (some (n.Group == 0))))
    else
     (if (n.Min == 0) = true then
      (if (n.Max == 0) = true then
       (if (n.Kind == 6) = true then
        (some true)
       else
        (if (n.Kind == 7) = true then
         (some true)
        else
         (some (n.Group == 0))))
      else
       (some false))
     else
      (some false)))
   else
    (if (decide (n.Set = (Arr.rep 4 0))) = true then
     (if (n.Kind == 5) = true then
      (if (n.Kind == 6) = true then
       (some true)
      else
       (if (n.Kind == 7) = true then
        (some true)
       else
        (some (n.Group == 0))))
     else
      (if (n.Min == 0) = true then
       (if (n.Max == 0) = true then
        (if (n.Kind == 6) = true then
         (some true)
        else
         (if (n.Kind == 7) = true then
          (some true)
         else
          (some (n.Group == 0))))
       else
        (some false))
      else
       (some false)))
    else
     (some false)))
  else
   (some false))
theorem leG31 (fu : Nat) (st : St31) : Le (HG31 fu st) (G31 st) := by
  unfold HG31 G31
  cases st <;> dsimp only <;> (repeat' (with_reducible first | exact le_refl _ | apply le_ite | refine le_bind ?_ (fun _ => ?_)))
noncomputable def HF31 (fu : Nat) (n : T27) : Option Bool :=
 (if (n.Kind == 3) = true then
  (HG31 fu (.p1 n ((ls n.Kids).length : Int) (if 2 > ((ls n.Kids).length : Int) then 2 else ((ls n.Kids).length : Int))))
 else
  (if (n.Kind == 4) = true then
   (HG31 fu (.p1 n ((ls n.Kids).length : Int) (if 2 > ((ls n.Kids).length : Int) then 2 else ((ls n.Kids).length : Int))))
  else
   (if (n.Kind == 5) = true then
    (if (decide (n.Min < 0)) = true then
     (some false)
    else
     (if (decide (n.Min > 255)) = true then
      (some false)
     else
      (if (n.Max != (-1)) = true then
       (if (decide (n.Max < n.Min)) = true then
        (some false)
       else
        (if (decide (n.Max > 255)) = true then
         (some false)
        else
         (HG31 fu (.p1 n ((ls n.Kids).length : Int) 1))))
      else
       (HG31 fu (.p1 n ((ls n.Kids).length : Int) 1)))))
   else
    (if (n.Kind == 6) = true then
     (HG31 fu (.p1 n ((ls n.Kids).length : Int) 1))
    else
     (if (n.Kind == 1) = true then
      (HG31 fu (.p1 n ((ls n.Kids).length : Int) 0))
     else
      (if (n.Kind == 2) = true then
       (HG31 fu (.p1 n ((ls n.Kids).length : Int) 0))
      else
       (if (n.Kind == 7) = true then
        (HG31 fu (.p1 n ((ls n.Kids).length : Int) 0))
       else
        (if (n.Kind == 8) = true then
         (HG31 fu (.p1 n ((ls n.Kids).length : Int) 0))
        else
         (if (n.Kind == 9) = true then
          (HG31 fu (.p1 n ((ls n.Kids).length : Int) 0))
         else
          (some false))))))))))
theorem leF31 (fu : Nat) (n : T27) : Le (HF31 fu n) (F31 n) := by
  unfold HF31 F31
  repeat' (with_reducible first | exact leG31 fu _ | exact le_refl _ | apply le_ite | refine le_bind ?_ (fun _ => ?_))
noncomputable def SG38 (fu : Nat)  (ih : St38 → Option (Int × Int)) : St38 → Option (Int × Int) := fun st => match st with
 | .e n =>
  (if (n.Kind == 6) = true then
   (ih (.p1 n n.Group n.Group))
  else
   (ih (.p1 n 0 0)))
 | .p1 n low high =>
  (ih (.p2 low high n.Kids ((ls n.Kids).length : Int) 0))
 | .p2 low high t18_ t19_ t20_ =>
  (if (decide (t20_ < t19_)) = true then
   (ix (ls t18_) t20_ >>= fun v_3 =>
    (ih (.e v_3) >>= fun r_6 =>
     (if (decide (r_6.1 > 0)) = true then
      (if (low == 0) = true then
       (ih (.p3 r_6.1 high r_6.2 t18_ t19_ t20_))
      else
       (if (decide (r_6.1 < low)) = true then
        (ih (.p3 r_6.1 high r_6.2 t18_ t19_ t20_))
       else
        (ih (.p3 low high r_6.2 t18_ t19_ t20_))))
     else
      (ih (.p3 low high r_6.2 t18_ t19_ t20_)))))
  else
   (some (low, high)))
 | .p3 low high b t18_ t19_ t20_ =>
  (ih (.p2 low (if b > high then b else high) t18_ t19_ (IntKind.wrap .i64 (t20_ + 1))))
noncomputable def HG38 (fu : Nat)  : St38 → Option (Int × Int) :=
 Nat.rec (motive := fun _ => St38 → Option (Int × Int)) (fun _ => none) (fun fu ih => SG38 fu ih) fu
theorem HG38_s (fu : Nat)  (st : St38) : HG38 (fu + 1) st = SG38 fu (HG38 fu) st := rfl
theorem leG38 (fu : Nat) (st : St38) : Le (HG38 fu st) (G38 st) := by
  induction fu generalizing st with
  | zero => exact le_none _
  | succ fu ih =>
    cases st
    · rw [HG38_s, G38.eq_1]
      unfold SG38
      dsimp only
      generalize HG38 fu = hh at ih ⊢
      repeat' (with_reducible first | exact ih _ | exact le_refl _ | apply le_ite | refine le_bind ?_ (fun _ => ?_))
    · rw [HG38_s, G38.eq_2]
      unfold SG38
      dsimp only
      generalize HG38 fu = hh at ih ⊢
      repeat' (with_reducible first | exact ih _ | exact le_refl _ | apply le_ite | refine le_bind ?_ (fun _ => ?_))
    · rw [HG38_s, G38.eq_3]
      unfold SG38
      dsimp only
      generalize HG38 fu = hh at ih ⊢
      repeat' (with_reducible first | exact ih _ | exact le_refl _ | apply le_ite | refine le_bind ?_ (fun _ => ?_))
    · rw [HG38_s, G38.eq_4]
      unfold SG38
      dsimp only
      generalize HG38 fu = hh at ih ⊢
      repeat' (with_reducible first | exact ih _ | exact le_refl _ | apply le_ite | refine le_bind ?_ (fun _ => ?_))
noncomputable def HF38 (fu : Nat) (n : T27) : Option (Int × Int) := HG38 fu (.e n)
theorem leF38 (fu : Nat) (n : T27) : Le (HF38 fu n) (F38 n) := by
  unfold HF38 F38
  repeat' (with_reducible first | exact leG38 fu _ | exact le_refl _ | apply le_ite | refine le_bind ?_ (fun _ => ?_))
noncomputable def HF29 (fu : Nat) (n : T27) : Option T27 :=
 (some n)
theorem leF29 (fu : Nat) (n : T27) : Le (HF29 fu n) (F29 n) := by
  unfold HF29 F29
  repeat' (with_reducible first | exact le_refl _ | apply le_ite | refine le_bind ?_ (fun _ => ?_))
noncomputable def SG41 (fu : Nat) {σ : Type} (Y : T27 → σ → Option (Bool × σ)) (ih : St41 σ → Option (Bool × σ)) : St41 σ → Option (Bool × σ) := fun st => match st with
 | .e n s_ =>
  (Y n s_ >>= fun r_1 =>
   (if (!r_1.1) = true then
    (some (false, r_1.2))
   else
    (ih (.p1 n ((ls n.Kids).length : Int) 0 r_1.2))))
 | .p1 n t14_ t15_ s_ =>
  (if (decide (t15_ < t14_)) = true then
   (ix (ls n.Kids) t15_ >>= fun v_5 =>
    (ih (.e v_5 s_) >>= fun r_7 =>
     (if (!r_7.1) = true then
      (some (false, r_7.2))
     else
      (ih (.p1 n t14_ (IntKind.wrap .i64 (t15_ + 1)) r_7.2)))))
  else
   (some (true, s_)))
noncomputable def HG41 (fu : Nat) {σ : Type} (Y : T27 → σ → Option (Bool × σ)) : St41 σ → Option (Bool × σ) :=
 Nat.rec (motive := fun _ => St41 σ → Option (Bool × σ)) (fun _ => none) (fun fu ih => SG41 fu Y ih) fu
theorem HG41_s (fu : Nat) {σ : Type} (Y : T27 → σ → Option (Bool × σ)) (st : St41 σ) : HG41 (fu + 1) Y st = SG41 fu Y (HG41 fu Y) st := rfl
theorem leG41 (fu : Nat) {σ : Type} (Y Y2 : T27 → σ → Option (Bool × σ)) (hY : ∀ a b, Le (Y a b) (Y2 a b)) (st : St41 σ) : Le (HG41 fu Y st) (G41 Y2 st) := by
  induction fu generalizing st with
  | zero => exact le_none _
  | succ fu ih =>
    cases st
    · rw [HG41_s, G41.eq_1]
      unfold SG41
      dsimp only
      generalize HG41 fu Y = hh at ih ⊢
      repeat' (with_reducible first | exact ih _ | exact hY _ _ | exact le_refl _ | apply le_ite | refine le_bind ?_ (fun _ => ?_))
    · rw [HG41_s, G41.eq_2]
      unfold SG41
      dsimp only
      generalize HG41 fu Y = hh at ih ⊢
      repeat' (with_reducible first | exact ih _ | exact hY _ _ | exact le_refl _ | apply le_ite | refine le_bind ?_ (fun _ => ?_))
noncomputable def HF41 (fu : Nat) {σ : Type} (Y : T27 → σ → Option (Bool × σ)) (n : T27) (s_ : σ) : Option (Bool × σ) := HG41 fu Y (.e n s_)
theorem leF41 (fu : Nat) {σ : Type} (Y Y2 : T27 → σ → Option (Bool × σ)) (n : T27) (s_ : σ) (hY : ∀ a b, Le (Y a b) (Y2 a b)) : Le (HF41 fu Y n s_) (F41 Y2 n s_) := by
  unfold HF41 F41
  repeat' (with_reducible first | exact hY _ _ | exact leG41 fu _ _ (fun _ _ => by first | exact hY _ _ ) _ | exact le_refl _ | apply le_ite | refine le_bind ?_ (fun _ => ?_))
noncomputable def HF40 (fu : Nat) {σ : Type} (Y : T27 → σ → Option (Bool × σ)) (d0_ : T27) (s_ : σ) : Option σ :=
 (HF41 fu Y d0_ s_ >>= fun r_2 =>
  (some r_2.2))
theorem leF40 (fu : Nat) {σ : Type} (Y Y2 : T27 → σ → Option (Bool × σ)) (d0_ : T27) (s_ : σ) (hY : ∀ a b, Le (Y a b) (Y2 a b)) : Le (HF40 fu Y d0_ s_) (F40 Y2 d0_ s_) := by
  unfold HF40 F40
  repeat' (with_reducible first | exact hY _ _ | exact leF41 fu _ _ _ _ (fun _ _ => by first | exact hY _ _ ) | exact le_refl _ | apply le_ite | refine le_bind ?_ (fun _ => ?_))
noncomputable def HB28_1 (fu : Nat) (t2_ : Int) (t5_ : T27) (x : T27) (zz : Int × Nat) : Option (Bool × (Int × Nat)) := if zz.2 = 0 then
 (if (x.Kind == 6) = true then
  (some (true, (IntKind.wrap .i64 (zz.1 + 1), 0)))
 else
  (some (true, (zz.1, 0))))
else none
theorem leB28_1 (fu : Nat) (t2_ : Int) (t5_ : T27) (x : T27) (zz : Int × Nat) : Le (HB28_1 fu t2_ t5_ x zz) (B28_1 t2_ t5_ x zz) := by
  unfold HB28_1 B28_1
  repeat' (with_reducible first | exact le_refl _ | apply le_ite | refine le_bind ?_ (fun _ => ?_))
noncomputable def HG28 (fu : Nat)  : St28 → Option Int := fun st => match st with
 | .p1 t2_ t5_ k =>
  (HF40 fu (HB28_1 fu t2_ t5_) t5_ (k, 0) >>= fun r_4 =>
   (if r_4.2 = 0 then
    (some r_4.1)
   else
    none))
theorem leG28 (fu : Nat) (st : St28) : Le (HG28 fu st) (G28 st) := by
  unfold HG28 G28
  cases st <;> dsimp only <;> (repeat' (with_reducible first | exact leF40 fu _ _ _ _ (fun _ _ => by first | exact leB28_1 fu _ _ _ _) | exact leB28_1 fu _ _ _ _ | exact le_refl _ | apply le_ite | refine le_bind ?_ (fun _ => ?_)))
noncomputable def HF28 (fu : Nat) (n : T27) : Option Int :=
 (HF29 fu n >>= fun r_2 =>
  (HG28 fu (.p1 0 r_2 0)))
theorem leF28 (fu : Nat) (n : T27) : Le (HF28 fu n) (F28 n) := by
  unfold HF28 F28
  repeat' (with_reducible first | exact leF29 fu _ | exact leG28 fu _ | exact le_refl _ | apply le_ite | refine le_bind ?_ (fun _ => ?_))
noncomputable def HF37 (fu : Nat) (x_ : Int) (q0_ : Int) : Option Int :=
 (some (if 16385 < (IntKind.wrap .i64 (q0_ + x_)) then 16385 else (IntKind.wrap .i64 (q0_ + x_))))
theorem leF37 (fu : Nat) (x_ : Int) (q0_ : Int) : Le (HF37 fu x_ q0_) (F37 x_ q0_) := by
  unfold HF37 F37
  repeat' (with_reducible first | exact le_refl _ | apply le_ite | refine le_bind ?_ (fun _ => ?_))
noncomputable def SG25 (fu : Nat)  (ih : St25 → Option Int) : St25 → Option Int := fun st => match st with
 | .e n =>
  (if (n.Kind == 1) = true then
   (some 0)
  else
   (if (n.Kind == 3) = true then
    (ih (.p1 n 0))
   else
    (if (n.Kind == 4) = true then
     (ih (.p1 n 0))
    else
     (if (n.Kind == 6) = true then
      (ih (.p1 n 0))
     else
      (if (n.Kind == 5) = true then
       (ix (ls n.Kids) 0 >>= fun v_7 =>
        (ih (.e v_7) >>= fun r_9 =>
         (ix (ls n.Kids) 0 >>= fun v_11 =>
          (HF38 fu v_11 >>= fun r_13 =>
           (if (decide (r_13.1 > 0)) = true then
            (ih (.p2 n (if 16385 < (IntKind.wrap .i64 (r_9 + 1)) then 16385 else (IntKind.wrap .i64 (r_9 + 1))) 0))
           else
            (ih (.p2 n r_9 0)))))))
      else
       (HF37 fu 1 0 >>= fun r_16 =>
        (some r_16)))))))
 | .p1 n sum =>
  (ih (.p3 n n.Kids ((ls n.Kids).length : Int) 0 sum))
 | .p2 n round sum =>
  (HF37 fu (IntKind.wrap .i64 (n.Min * round)) sum >>= fun r_18 =>
   (if (n.Max == (-1)) = true then
    (HF37 fu (IntKind.wrap .i64 (round + 4)) r_18 >>= fun r_21 =>
     (some r_21))
   else
    (HF37 fu (IntKind.wrap .i64 ((IntKind.wrap .i64 (n.Max - n.Min)) * (IntKind.wrap .i64 (round + 3)))) r_18 >>= fun r_23 =>
     (some r_23))))
 | .p3 n t22_ t23_ t24_ sum =>
  (if (decide (t24_ < t23_)) = true then
   (ix (ls t22_) t24_ >>= fun v_26 =>
    (ih (.e v_26) >>= fun r_29 =>
     (HF37 fu r_29 sum >>= fun r_31 =>
      (ih (.p3 n t22_ t23_ (IntKind.wrap .i64 (t24_ + 1)) r_31)))))
  else
   (if (n.Kind == 4) = true then
    (HF37 fu (IntKind.wrap .i64 (2 * (IntKind.wrap .i64 (((ls n.Kids).length : Int) - 1)))) sum >>= fun r_34 =>
     (ih (.p4 n r_34)))
   else
    (ih (.p4 n sum))))
 | .p4 n sum =>
  (if (n.Kind == 6) = true then
   (HF37 fu 2 sum >>= fun r_37 =>
    (some r_37))
  else
   (some sum))
noncomputable def HG25 (fu : Nat)  : St25 → Option Int :=
 Nat.rec (motive := fun _ => St25 → Option Int) (fun _ => none) (fun fu ih => SG25 fu ih) fu
theorem HG25_s (fu : Nat)  (st : St25) : HG25 (fu + 1) st = SG25 fu (HG25 fu) st := rfl
theorem leG25 (fu : Nat) (st : St25) : Le (HG25 fu st) (G25 st) := by
  induction fu generalizing st with
  | zero => exact le_none _
  | succ fu ih =>
    cases st
    · rw [HG25_s, G25.eq_1]
      unfold SG25
      dsimp only
      generalize HG25 fu = hh at ih ⊢
      repeat' (with_reducible first | exact ih _ | exact leF38 fu _ | exact leF37 fu _ _ | exact le_refl _ | apply le_ite | refine le_bind ?_ (fun _ => ?_))
    · rw [HG25_s, G25.eq_2]
      unfold SG25
      dsimp only
      generalize HG25 fu = hh at ih ⊢
      repeat' (with_reducible first | exact ih _ | exact leF38 fu _ | exact leF37 fu _ _ | exact le_refl _ | apply le_ite | refine le_bind ?_ (fun _ => ?_))
    · rw [HG25_s, G25.eq_3]
      unfold SG25
      dsimp only
      generalize HG25 fu = hh at ih ⊢
      repeat' (with_reducible first | exact ih _ | exact leF38 fu _ | exact leF37 fu _ _ | exact le_refl _ | apply le_ite | refine le_bind ?_ (fun _ => ?_))
    · rw [HG25_s, G25.eq_4]
      unfold SG25
      dsimp only
      generalize HG25 fu = hh at ih ⊢
      repeat' (with_reducible first | exact ih _ | exact leF38 fu _ | exact leF37 fu _ _ | exact le_refl _ | apply le_ite | refine le_bind ?_ (fun _ => ?_))
    · rw [HG25_s, G25.eq_5]
      unfold SG25
      dsimp only
      generalize HG25 fu = hh at ih ⊢
      repeat' (with_reducible first | exact ih _ | exact leF38 fu _ | exact leF37 fu _ _ | exact le_refl _ | apply le_ite | refine le_bind ?_ (fun _ => ?_))
noncomputable def HF25 (fu : Nat) (n : T27) : Option Int := HG25 fu (.e n)
theorem leF25 (fu : Nat) (n : T27) : Le (HF25 fu n) (F25 n) := by
  unfold HF25 F25
  repeat' (with_reducible first | exact leG25 fu _ | exact le_refl _ | apply le_ite | refine le_bind ?_ (fun _ => ?_))
noncomputable def SG30 (fu : Nat)  (ih : St30 → Option (Bool × Int × Sl Bool)) : St30 → Option (Bool × Int × Sl Bool) := fun st => match st with
 | .e n q0_ q1_ q2_ =>
  (if q0_ = true then
   (HF31 fu n >>= fun r_2 =>
    (ih (.p1 n r_2 q1_ q2_)))
  else
   (ih (.p1 n false q1_ q2_)))
 | .p1 n q0_ q1_ q2_ =>
  (if (!q0_) = true then
   (some (q0_, q1_, q2_))
  else
   (if (n.Kind == 6) = true then
    (if (n.Group == (IntKind.wrap .i64 (q1_ + 1))) = true then
     (ih (.p2 n (decide ((IntKind.wrap .i64 (q1_ + 1)) ≤ 99)) (IntKind.wrap .i64 (q1_ + 1)) q2_))
    else
     (ih (.p2 n false (IntKind.wrap .i64 (q1_ + 1)) q2_)))
   else
    (if (n.Kind == 7) = true then
     (if (decide (n.Group ≥ 1)) = true then
      (if (decide (n.Group ≤ 9)) = true then
       (if (decide (n.Group ≤ q1_)) = true then
        (ix (ls q2_) (IntKind.wrap .i64 (n.Group - 1)) >>= fun v_12 =>
         (ih (.p3 n v_12 q1_ q2_)))
       else
        (ih (.p3 n false q1_ q2_)))
      else
       (ih (.p3 n false q1_ q2_)))
     else
      (ih (.p3 n false q1_ q2_)))
    else
     (ih (.p3 n q0_ q1_ q2_)))))
 | .p2 n q0_ q1_ q2_ =>
  (if ((ls q2_).length + (ls (some ([false] : List Bool))).length) * 1 ≤ 140737488355328 then
   (ih (.p3 n q0_ q1_ (sapp q2_ (ls (some ([false] : List Bool))))))
  else none)
 | .p3 n q0_ q1_ q2_ =>
  (ih (.p4 n ((ls n.Kids).length : Int) 0 q0_ q1_ q2_))
 | .p4 n t71_ t72_ q0_ q1_ q2_ =>
  (if (decide (t72_ < t71_)) = true then
   (if q0_ = true then
    (ix (ls n.Kids) t72_ >>= fun v_20 =>
     (ih (.e v_20 q0_ q1_ q2_) >>= fun r_22 =>
      (ih (.p4 n t71_ (IntKind.wrap .i64 (t72_ + 1)) r_22.1 r_22.2.1 r_22.2.2))))
   else
    (ih (.p4 n t71_ (IntKind.wrap .i64 (t72_ + 1)) q0_ q1_ q2_)))
  else
   (if q0_ = true then
    (if (n.Kind == 6) = true then
     (ix (ls q2_) (IntKind.wrap .i64 (n.Group - 1)) >>= fun v_27 =>
      (some (q0_, q1_, (vset q2_ (IntKind.wrap .i64 (n.Group - 1)) true))))
    else
     (some (q0_, q1_, q2_)))
   else
    (some (q0_, q1_, q2_))))
noncomputable def HG30 (fu : Nat)  : St30 → Option (Bool × Int × Sl Bool) :=
 Nat.rec (motive := fun _ => St30 → Option (Bool × Int × Sl Bool)) (fun _ => none) (fun fu ih => SG30 fu ih) fu
theorem HG30_s (fu : Nat)  (st : St30) : HG30 (fu + 1) st = SG30 fu (HG30 fu) st := rfl
theorem leG30 (fu : Nat) (st : St30) : Le (HG30 fu st) (G30 st) := by
  induction fu generalizing st with
  | zero => exact le_none _
  | succ fu ih =>
    cases st
    · rw [HG30_s, G30.eq_1]
      unfold SG30
      dsimp only
      generalize HG30 fu = hh at ih ⊢
      repeat' (with_reducible first | exact ih _ | exact leF31 fu _ | exact le_refl _ | apply le_ite | refine le_bind ?_ (fun _ => ?_))
    · rw [HG30_s, G30.eq_2]
      unfold SG30
      dsimp only
      generalize HG30 fu = hh at ih ⊢
      repeat' (with_reducible first | exact ih _ | exact leF31 fu _ | exact le_refl _ | apply le_ite | refine le_bind ?_ (fun _ => ?_))
    · rw [HG30_s, G30.eq_3]
      unfold SG30
      dsimp only
      generalize HG30 fu = hh at ih ⊢
      repeat' (with_reducible first | exact ih _ | exact leF31 fu _ | exact le_refl _ | apply le_ite | refine le_bind ?_ (fun _ => ?_))
    · rw [HG30_s, G30.eq_4]
      unfold SG30
      dsimp only
      generalize HG30 fu = hh at ih ⊢
      repeat' (with_reducible first | exact ih _ | exact leF31 fu _ | exact le_refl _ | apply le_ite | refine le_bind ?_ (fun _ => ?_))
    · rw [HG30_s, G30.eq_5]
      unfold SG30
      dsimp only
      generalize HG30 fu = hh at ih ⊢
      repeat' (with_reducible first | exact ih _ | exact leF31 fu _ | exact le_refl _ | apply le_ite | refine le_bind ?_ (fun _ => ?_))
noncomputable def HF30 (fu : Nat) (n : T27) (q0_ : Bool) (q1_ : Int) (q2_ : Sl Bool) : Option (Bool × Int × Sl Bool) := HG30 fu (.e n q0_ q1_ q2_)
theorem leF30 (fu : Nat) (n : T27) (q0_ : Bool) (q1_ : Int) (q2_ : Sl Bool) : Le (HF30 fu n q0_ q1_ q2_) (F30 n q0_ q1_ q2_) := by
  unfold HF30 F30
  repeat' (with_reducible first | exact leG30 fu _ | exact le_refl _ | apply le_ite | refine le_bind ?_ (fun _ => ?_))
noncomputable def HB12_1 (fu : Nat) (n : T27) (t8_ : T27) (x : T27) (zz : Int × Int × Nat) : Option (Bool × (Int × Int × Nat)) := if zz.2.2 = 0 then
 (if (decide ((IntKind.wrap .i64 (zz.2.1 + 1)) > 8192)) = true then
  (some (false, (3, IntKind.wrap .i64 (zz.2.1 + 1), 1)))
 else
  (some (true, (zz.1, IntKind.wrap .i64 (zz.2.1 + 1), 0))))
else none
theorem leB12_1 (fu : Nat) (n : T27) (t8_ : T27) (x : T27) (zz : Int × Int × Nat) : Le (HB12_1 fu n t8_ x zz) (B12_1 n t8_ x zz) := by
  unfold HB12_1 B12_1
  repeat' (with_reducible first | exact le_refl _ | apply le_ite | refine le_bind ?_ (fun _ => ?_))
noncomputable def HG12 (fu : Nat)  : St12 → Option Int := fun st => match st with
 | .p1 n t8_ t2_ count =>
  (HF40 fu (HB12_1 fu n t8_) t8_ (t2_, count, 0) >>= fun r_5 =>
   (if r_5.2.2 = 0 then
    (HF30 fu n true 0 (none : Sl Bool) >>= fun r_12 =>
     (if (!r_12.1) = true then
      (some 90)
     else
      (some 0)))
   else
    (if r_5.2.2 = 1 then
     (some r_5.1)
    else
     none)))
theorem leG12 (fu : Nat) (st : St12) : Le (HG12 fu st) (G12 st) := by
  unfold HG12 G12
  cases st <;> dsimp only <;> (repeat' (with_reducible first | exact leF40 fu _ _ _ _ (fun _ _ => by first | exact leB12_1 fu _ _ _ _) | exact leB12_1 fu _ _ _ _ | exact leF30 fu _ _ _ _ | exact le_refl _ | apply le_ite | refine le_bind ?_ (fun _ => ?_)))
noncomputable def HF12 (fu : Nat) (n : T27) : Option Int :=
 (HF29 fu n >>= fun r_3 =>
  (HG12 fu (.p1 n r_3 0 0)))
theorem leF12 (fu : Nat) (n : T27) : Le (HF12 fu n) (F12 n) := by
  unfold HF12 F12
  repeat' (with_reducible first | exact leF29 fu _ | exact leG12 fu _ | exact le_refl _ | apply le_ite | refine le_bind ?_ (fun _ => ?_))
noncomputable def HF27 (fu : Nat) (c : T65) (x_ : T52) : Option (Int × T65) :=
 (if ((ls c.code).length + (ls (some ([x_] : List T52))).length) * 72 ≤ 140737488355328 then
  (some (IntKind.wrap .i64 (((ls (sapp c.code (ls (some ([x_] : List T52))))).length : Int) - 1), ({ c with code := sapp c.code (ls (some ([x_] : List T52))) } : T65)))
 else none)
theorem leF27 (fu : Nat) (c : T65) (x_ : T52) : Le (HF27 fu c x_) (F27 c x_) := by
  unfold HF27 F27
  repeat' (with_reducible first | exact le_refl _ | apply le_ite | refine le_bind ?_ (fun _ => ?_))
noncomputable def HF58 (fu : Nat) (s : T92) (i : Int) : Option (Bool × T92) :=
 (ix (ls s.in_) i >>= fun v_3 =>
  (if v_3 = true then
   (some (false, s))
  else
   (ix (ls s.in_) i >>= fun v_6 =>
    (if ((ls s.list).length + (ls (some ([i] : List Int))).length) * 8 ≤ 140737488355328 then
     (some (true, ({ s with in_ := (vset s.in_ i true), list := sapp s.list (ls (some ([i] : List Int))) } : T92)))
    else none))))
theorem leF58 (fu : Nat) (s : T92) (i : Int) : Le (HF58 fu s i) (F58 s i) := by
  unfold HF58 F58
  repeat' (with_reducible first | exact le_refl _ | apply le_ite | refine le_bind ?_ (fun _ => ?_))
noncomputable def HF9 (fu : Nat) (n : T27) : Option (Int × Int) :=
 (HF12 fu n >>= fun r_1 =>
  (if (r_1 != 0) = true then
   (some (0, r_1))
  else
   (HF25 fu n >>= fun r_4 =>
    (if (decide (r_4 < 16384)) = true then
     (some (IntKind.wrap .i64 (r_4 + 1), 0))
    else
     (some (0, 3))))))
theorem leF9 (fu : Nat) (n : T27) : Le (HF9 fu n) (F9 n) := by
  unfold HF9 F9
  repeat' (with_reducible first | exact leF12 fu _ | exact leF25 fu _ | exact le_refl _ | apply le_ite | refine le_bind ?_ (fun _ => ?_))
noncomputable def HF39 (fu : Nat)  : Option Unit :=
 (some ())
theorem leF39 (fu : Nat)  : Le (HF39 fu ) (F39 ) := by
  unfold HF39 F39
  repeat' (with_reducible first | exact le_refl _ | apply le_ite | refine le_bind ?_ (fun _ => ?_))
noncomputable def HF46 (fu : Nat) (c : T65) (n : T27) : Option T65 :=
 (some c)
theorem leF46 (fu : Nat) (c : T65) (n : T27) : Le (HF46 fu c n) (F46 c n) := by
  unfold HF46 F46
  repeat' (with_reducible first | exact le_refl _ | apply le_ite | refine le_bind ?_ (fun _ => ?_))
noncomputable def HF47 (fu : Nat) (c : T65) (n : T27) : Option T65 :=
 (HF27 fu c ({ Kind := 1, Set := n.Set, To := 0, Group := 0, Last := 0, Slot := 0 } : T52) >>= fun r_1 =>
  (some r_1.2))
theorem leF47 (fu : Nat) (c : T65) (n : T27) : Le (HF47 fu c n) (F47 c n) := by
  unfold HF47 F47
  repeat' (with_reducible first | exact leF27 fu _ _ | exact le_refl _ | apply le_ite | refine le_bind ?_ (fun _ => ?_))
noncomputable def HF48 (fu : Nat) (c : T65) (n : T27) : Option T65 :=
 (HF27 fu c ({ Kind := 10, Set := (Arr.rep 4 0), To := 0, Group := 0, Last := 0, Slot := 0 } : T52) >>= fun r_1 =>
  (some r_1.2))
theorem leF48 (fu : Nat) (c : T65) (n : T27) : Le (HF48 fu c n) (F48 c n) := by
  unfold HF48 F48
  repeat' (with_reducible first | exact leF27 fu _ _ | exact le_refl _ | apply le_ite | refine le_bind ?_ (fun _ => ?_))
noncomputable def HF49 (fu : Nat) (c : T65) (n : T27) : Option T65 :=
 (HF27 fu c ({ Kind := 11, Set := (Arr.rep 4 0), To := 0, Group := 0, Last := 0, Slot := 0 } : T52) >>= fun r_1 =>
  (some r_1.2))
theorem leF49 (fu : Nat) (c : T65) (n : T27) : Le (HF49 fu c n) (F49 c n) := by
  unfold HF49 F49
  repeat' (with_reducible first | exact leF27 fu _ _ | exact le_refl _ | apply le_ite | refine le_bind ?_ (fun _ => ?_))
noncomputable def HF50 (fu : Nat) (c : T65) (n : T27) : Option T65 :=
 (HF27 fu c ({ Kind := 9, Set := (Arr.rep 4 0), To := 0, Group := n.Group, Last := 0, Slot := 0 } : T52) >>= fun r_1 =>
  (some r_1.2))
theorem leF50 (fu : Nat) (c : T65) (n : T27) : Le (HF50 fu c n) (F50 c n) := by
  unfold HF50 F50
  repeat' (with_reducible first | exact leF27 fu _ _ | exact le_refl _ | apply le_ite | refine le_bind ?_ (fun _ => ?_))
noncomputable def SG26r (fu : Nat)  (ih : St26r → Option T65) : St26r → Option T65 := fun st => match st with
 | .e26 c n =>
  (HF39 fu >>= fun r_1 =>
   (if n.Kind = 1 then
    (HF46 fu c n >>= fun r_28 =>
     (some r_28))
   else
    (if n.Kind = 2 then
     (HF47 fu c n >>= fun r_25 =>
      (some r_25))
    else
     (if n.Kind = 3 then
      (ih (.e51 c n) >>= fun r_22 =>
       (some r_22))
     else
      (if n.Kind = 4 then
       (ih (.e53 c n) >>= fun r_19 =>
        (some r_19))
      else
       (if n.Kind = 5 then
        (ih (.e54 c n) >>= fun r_16 =>
         (some r_16))
       else
        (if n.Kind = 6 then
         (ih (.e52 c n) >>= fun r_13 =>
          (some r_13))
        else
         (if n.Kind = 7 then
          (HF50 fu c n >>= fun r_10 =>
           (some r_10))
         else
          (if n.Kind = 8 then
           (HF48 fu c n >>= fun r_7 =>
            (some r_7))
          else
           (if n.Kind = 9 then
            (HF49 fu c n >>= fun r_4 =>
             (some r_4))
           else
            none))))))))))
 | .e51 c n =>
  (ih (.p51_1 n.Kids ((ls n.Kids).length : Int) 0 c))
 | .p51_1 t7_ t8_ t9_ c =>
  (if (decide (t9_ < t8_)) = true then
   (ix (ls t7_) t9_ >>= fun v_2 =>
    (ih (.e26 c v_2) >>= fun r_5 =>
     (ih (.p51_1 t7_ t8_ (IntKind.wrap .i64 (t9_ + 1)) r_5))))
  else
   (some c))
 | .e52 c n =>
  (HF27 fu c ({ Kind := 4, Set := (Arr.rep 4 0), To := 0, Group := n.Group, Last := 0, Slot := 0 } : T52) >>= fun r_1 =>
   (ix (ls n.Kids) 0 >>= fun v_3 =>
    (ih (.e26 r_1.2 v_3) >>= fun r_5 =>
     (HF27 fu r_5 ({ Kind := 5, Set := (Arr.rep 4 0), To := 0, Group := n.Group, Last := 0, Slot := 0 } : T52) >>= fun r_7 =>
      (some r_7.2)))))
 | .e53 c n =>
  (scut n.Kids 0 (IntKind.wrap .i64 (((ls n.Kids).length : Int) - 1)) >>= fun w_1 =>
   (ih (.p53_1 n (IntKind.wrap .i64 (((ls n.Kids).length : Int) - 1)) w_1 ((ls w_1).length : Int) 0 c none)))
 | .p53_1 n last t18_ t19_ t20_ c out =>
  (if (decide (t20_ < t19_)) = true then
   (ix (ls t18_) t20_ >>= fun v_5 =>
    (HF27 fu c ({ Kind := 2, Set := (Arr.rep 4 0), To := 0, Group := 0, Last := 0, Slot := 0 } : T52) >>= fun r_8 =>
     (ih (.e26 r_8.2 v_5) >>= fun r_10 =>
      (HF27 fu r_10 ({ Kind := 3, Set := (Arr.rep 4 0), To := 0, Group := 0, Last := 0, Slot := 0 } : T52) >>= fun r_12 =>
       (if ((ls out).length + (ls (some ([r_12.1] : List Int))).length) * 8 ≤ 140737488355328 then
        (ix (ls r_12.2.code) r_8.1 >>= fun v_18 =>
         (ih (.p53_1 n last t18_ t19_ (IntKind.wrap .i64 (t20_ + 1)) ({ r_12.2 with code := (vset r_12.2.code r_8.1 ({ v_18 with To := ((ls r_12.2.code).length : Int) } : T52)) } : T65) (sapp out (ls (some ([r_12.1] : List Int)))))))
       else none)))))
  else
   (ix (ls n.Kids) last >>= fun v_20 =>
    (ih (.e26 c v_20) >>= fun r_22 =>
     (ih (.p53_2 out ((ls out).length : Int) 0 r_22)))))
 | .p53_2 t56_ t57_ t58_ c =>
  (if (decide (t58_ < t57_)) = true then
   (ix (ls t56_) t58_ >>= fun v_25 =>
    (ix (ls c.code) v_25 >>= fun v_28 =>
     (ih (.p53_2 t56_ t57_ (IntKind.wrap .i64 (t58_ + 1)) ({ c with code := (vset c.code v_25 ({ v_28 with To := ((ls c.code).length : Int) } : T52)) } : T65)))))
  else
   (some c))
 | .e54 c n =>
  (ih (.p54_1 n n.Min 0 c))
 | .p54_1 n t10_ t11_ c =>
  (if (decide (t11_ < t10_)) = true then
   (ix (ls n.Kids) 0 >>= fun v_3 =>
    (ih (.e59 c v_3 false) >>= fun r_5 =>
     (if (((ls r_5.code).length : Int) == ((ls c.code).length : Int)) = true then
      (ih (.p54_2 n r_5))
     else
      (ih (.p54_1 n t10_ (IntKind.wrap .i64 (t11_ + 1)) r_5)))))
  else
   (ih (.p54_2 n c)))
 | .p54_2 n c =>
  (if (n.Max == (-1)) = true then
   (HF27 fu c ({ Kind := 2, Set := (Arr.rep 4 0), To := 0, Group := 0, Last := 0, Slot := 0 } : T52) >>= fun r_10 =>
    (ix (ls n.Kids) 0 >>= fun v_12 =>
     (ih (.e59 r_10.2 v_12 true) >>= fun r_14 =>
      (HF27 fu r_14 ({ Kind := 3, Set := (Arr.rep 4 0), To := r_10.1, Group := 0, Last := 0, Slot := 0 } : T52) >>= fun r_16 =>
       (ix (ls r_16.2.code) r_10.1 >>= fun v_19 =>
        (some ({ r_16.2 with code := (vset r_16.2.code r_10.1 ({ v_19 with To := ((ls r_16.2.code).length : Int) } : T52)) } : T65)))))))
  else
   (ih (.p54_3 n (IntKind.wrap .i64 (n.Max - n.Min)) 0 c none)))
 | .p54_3 n t64_ t65_ c out =>
  (if (decide (t65_ < t64_)) = true then
   (HF27 fu c ({ Kind := 2, Set := (Arr.rep 4 0), To := 0, Group := 0, Last := 0, Slot := 0 } : T52) >>= fun r_23 =>
    (if ((ls out).length + (ls (some ([r_23.1] : List Int))).length) * 8 ≤ 140737488355328 then
     (ix (ls n.Kids) 0 >>= fun v_28 =>
      (ih (.e59 r_23.2 v_28 true) >>= fun r_30 =>
       (ih (.p54_3 n t64_ (IntKind.wrap .i64 (t65_ + 1)) r_30 (sapp out (ls (some ([r_23.1] : List Int))))))))
    else none))
  else
   (ih (.p54_4 out ((ls out).length : Int) 0 c)))
 | .p54_4 t80_ t81_ t82_ c =>
  (if (decide (t82_ < t81_)) = true then
   (ix (ls t80_) t82_ >>= fun v_33 =>
    (ix (ls c.code) v_33 >>= fun v_36 =>
     (ih (.p54_4 t80_ t81_ (IntKind.wrap .i64 (t82_ + 1)) ({ c with code := (vset c.code v_33 ({ v_36 with To := ((ls c.code).length : Int) } : T52)) } : T65)))))
  else
   (some c))
 | .e59 c n free =>
  (if free = true then
   (HF27 fu c ({ Kind := 7, Set := (Arr.rep 4 0), To := 0, Group := 0, Last := 0, Slot := c.free } : T52) >>= fun r_3 =>
    (ih (.p59_1 free n c.free ({ r_3.2 with free := IntKind.wrap .i64 (r_3.2.free + 1), slots := (if (IntKind.wrap .i64 (r_3.2.free + 1)) > r_3.2.slots then (IntKind.wrap .i64 (r_3.2.free + 1)) else r_3.2.slots) } : T65))))
  else
   (ih (.p59_1 free n c.free c)))
 | .p59_1 free n slot c =>
  (HF38 fu n >>= fun r_6 =>
   (if (decide (r_6.1 > 0)) = true then
    (HF27 fu c ({ Kind := 6, Set := (Arr.rep 4 0), To := 0, Group := r_6.1, Last := r_6.2, Slot := 0 } : T52) >>= fun r_9 =>
     (ih (.p59_2 free n slot r_9.2)))
   else
    (ih (.p59_2 free n slot c))))
 | .p59_2 free n slot c =>
  (ih (.e26 c n) >>= fun r_11 =>
   (if free = true then
    (HF27 fu ({ r_11 with free := IntKind.wrap .i64 (r_11.free - 1) } : T65) ({ Kind := 8, Set := (Arr.rep 4 0), To := 0, Group := 0, Last := 0, Slot := slot } : T52) >>= fun r_15 =>
     (some r_15.2))
   else
    (some r_11)))
noncomputable def HG26r (fu : Nat)  : St26r → Option T65 :=
 Nat.rec (motive := fun _ => St26r → Option T65) (fun _ => none) (fun fu ih => SG26r fu ih) fu
theorem HG26r_s (fu : Nat)  (st : St26r) : HG26r (fu + 1) st = SG26r fu (HG26r fu) st := rfl
theorem leG26r (fu : Nat) (st : St26r) : Le (HG26r fu st) (G26r st) := by
  induction fu generalizing st with
  | zero => exact le_none _
  | succ fu ih =>
    cases st
    · rw [HG26r_s, G26r.eq_1]
      unfold SG26r
      dsimp only
      generalize HG26r fu = hh at ih ⊢
      repeat' (with_reducible first | exact ih _ | exact leF39 fu | exact leF46 fu _ _ | exact leF47 fu _ _ | exact leF50 fu _ _ | exact leF48 fu _ _ | exact leF49 fu _ _ | exact leF27 fu _ _ | exact leF38 fu _ | exact le_refl _ | apply le_ite | refine le_bind ?_ (fun _ => ?_))
    · rw [HG26r_s, G26r.eq_2]
      unfold SG26r
      dsimp only
      generalize HG26r fu = hh at ih ⊢
      repeat' (with_reducible first | exact ih _ | exact leF39 fu | exact leF46 fu _ _ | exact leF47 fu _ _ | exact leF50 fu _ _ | exact leF48 fu _ _ | exact leF49 fu _ _ | exact leF27 fu _ _ | exact leF38 fu _ | exact le_refl _ | apply le_ite | refine le_bind ?_ (fun _ => ?_))
    · rw [HG26r_s, G26r.eq_3]
      unfold SG26r
      dsimp only
      generalize HG26r fu = hh at ih ⊢
      repeat' (with_reducible first | exact ih _ | exact leF39 fu | exact leF46 fu _ _ | exact leF47 fu _ _ | exact leF50 fu _ _ | exact leF48 fu _ _ | exact leF49 fu _ _ | exact leF27 fu _ _ | exact leF38 fu _ | exact le_refl _ | apply le_ite | refine le_bind ?_ (fun _ => ?_))
    · rw [HG26r_s, G26r.eq_4]
      unfold SG26r
      dsimp only
      generalize HG26r fu = hh at ih ⊢
      repeat' (with_reducible first | exact ih _ | exact leF39 fu | exact leF46 fu _ _ | exact leF47 fu _ _ | exact leF50 fu _ _ | exact leF48 fu _ _ | exact leF49 fu _ _ | exact leF27 fu _ _ | exact leF38 fu _ | exact le_refl _ | apply le_ite | refine le_bind ?_ (fun _ => ?_))
    · rw [HG26r_s, G26r.eq_5]
      unfold SG26r
      dsimp only
      generalize HG26r fu = hh at ih ⊢
      repeat' (with_reducible first | exact ih _ | exact leF39 fu | exact leF46 fu _ _ | exact leF47 fu _ _ | exact leF50 fu _ _ | exact leF48 fu _ _ | exact leF49 fu _ _ | exact leF27 fu _ _ | exact leF38 fu _ | exact le_refl _ | apply le_ite | refine le_bind ?_ (fun _ => ?_))
    · rw [HG26r_s, G26r.eq_6]
      unfold SG26r
      dsimp only
      generalize HG26r fu = hh at ih ⊢
      repeat' (with_reducible first | exact ih _ | exact leF39 fu | exact leF46 fu _ _ | exact leF47 fu _ _ | exact leF50 fu _ _ | exact leF48 fu _ _ | exact leF49 fu _ _ | exact leF27 fu _ _ | exact leF38 fu _ | exact le_refl _ | apply le_ite | refine le_bind ?_ (fun _ => ?_))
    · rw [HG26r_s, G26r.eq_7]
      unfold SG26r
      dsimp only
      generalize HG26r fu = hh at ih ⊢
      repeat' (with_reducible first | exact ih _ | exact leF39 fu | exact leF46 fu _ _ | exact leF47 fu _ _ | exact leF50 fu _ _ | exact leF48 fu _ _ | exact leF49 fu _ _ | exact leF27 fu _ _ | exact leF38 fu _ | exact le_refl _ | apply le_ite | refine le_bind ?_ (fun _ => ?_))
    · rw [HG26r_s, G26r.eq_8]
      unfold SG26r
      dsimp only
      generalize HG26r fu = hh at ih ⊢
      repeat' (with_reducible first | exact ih _ | exact leF39 fu | exact leF46 fu _ _ | exact leF47 fu _ _ | exact leF50 fu _ _ | exact leF48 fu _ _ | exact leF49 fu _ _ | exact leF27 fu _ _ | exact leF38 fu _ | exact le_refl _ | apply le_ite | refine le_bind ?_ (fun _ => ?_))
    · rw [HG26r_s, G26r.eq_9]
      unfold SG26r
      dsimp only
      generalize HG26r fu = hh at ih ⊢
      repeat' (with_reducible first | exact ih _ | exact leF39 fu | exact leF46 fu _ _ | exact leF47 fu _ _ | exact leF50 fu _ _ | exact leF48 fu _ _ | exact leF49 fu _ _ | exact leF27 fu _ _ | exact leF38 fu _ | exact le_refl _ | apply le_ite | refine le_bind ?_ (fun _ => ?_))
    · rw [HG26r_s, G26r.eq_10]
      unfold SG26r
      dsimp only
      generalize HG26r fu = hh at ih ⊢
      repeat' (with_reducible first | exact ih _ | exact leF39 fu | exact leF46 fu _ _ | exact leF47 fu _ _ | exact leF50 fu _ _ | exact leF48 fu _ _ | exact leF49 fu _ _ | exact leF27 fu _ _ | exact leF38 fu _ | exact le_refl _ | apply le_ite | refine le_bind ?_ (fun _ => ?_))
    · rw [HG26r_s, G26r.eq_11]
      unfold SG26r
      dsimp only
      generalize HG26r fu = hh at ih ⊢
      repeat' (with_reducible first | exact ih _ | exact leF39 fu | exact leF46 fu _ _ | exact leF47 fu _ _ | exact leF50 fu _ _ | exact leF48 fu _ _ | exact leF49 fu _ _ | exact leF27 fu _ _ | exact leF38 fu _ | exact le_refl _ | apply le_ite | refine le_bind ?_ (fun _ => ?_))
    · rw [HG26r_s, G26r.eq_12]
      unfold SG26r
      dsimp only
      generalize HG26r fu = hh at ih ⊢
      repeat' (with_reducible first | exact ih _ | exact leF39 fu | exact leF46 fu _ _ | exact leF47 fu _ _ | exact leF50 fu _ _ | exact leF48 fu _ _ | exact leF49 fu _ _ | exact leF27 fu _ _ | exact leF38 fu _ | exact le_refl _ | apply le_ite | refine le_bind ?_ (fun _ => ?_))
    · rw [HG26r_s, G26r.eq_13]
      unfold SG26r
      dsimp only
      generalize HG26r fu = hh at ih ⊢
      repeat' (with_reducible first | exact ih _ | exact leF39 fu | exact leF46 fu _ _ | exact leF47 fu _ _ | exact leF50 fu _ _ | exact leF48 fu _ _ | exact leF49 fu _ _ | exact leF27 fu _ _ | exact leF38 fu _ | exact le_refl _ | apply le_ite | refine le_bind ?_ (fun _ => ?_))
    · rw [HG26r_s, G26r.eq_14]
      unfold SG26r
      dsimp only
      generalize HG26r fu = hh at ih ⊢
      repeat' (with_reducible first | exact ih _ | exact leF39 fu | exact leF46 fu _ _ | exact leF47 fu _ _ | exact leF50 fu _ _ | exact leF48 fu _ _ | exact leF49 fu _ _ | exact leF27 fu _ _ | exact leF38 fu _ | exact le_refl _ | apply le_ite | refine le_bind ?_ (fun _ => ?_))
    · rw [HG26r_s, G26r.eq_15]
      unfold SG26r
      dsimp only
      generalize HG26r fu = hh at ih ⊢
      repeat' (with_reducible first | exact ih _ | exact leF39 fu | exact leF46 fu _ _ | exact leF47 fu _ _ | exact leF50 fu _ _ | exact leF48 fu _ _ | exact leF49 fu _ _ | exact leF27 fu _ _ | exact leF38 fu _ | exact le_refl _ | apply le_ite | refine le_bind ?_ (fun _ => ?_))
noncomputable def HF26 (fu : Nat) (c : T65) (n : T27) : Option T65 := HG26r fu (.e26 c n)
theorem leF26 (fu : Nat) (c : T65) (n : T27) : Le (HF26 fu c n) (F26 c n) := by
  unfold HF26 F26
  repeat' (with_reducible first | exact leG26r fu _ | exact le_refl _ | apply le_ite | refine le_bind ?_ (fun _ => ?_))
noncomputable def HF10 (fu : Nat) (n : T27) : Option (T34 × Int) :=
 (HF9 fu n >>= fun r_2 =>
  (if (r_2.2 != 0) = true then
   (some (({ Groups := 0, Slots := 0, Code := none } : T34), r_2.2))
  else
   (HF26 fu ({ code := (none : Sl T52), slots := 0, free := 0 } : T65) n >>= fun r_7 =>
    (HF27 fu r_7 ({ Kind := 12, Set := (Arr.rep 4 0), To := 0, Group := 0, Last := 0, Slot := 0 } : T52) >>= fun r_9 =>
     (HF28 fu n >>= fun r_12 =>
      (some (({ Groups := r_12, Slots := r_9.2.slots, Code := r_9.2.code } : T34), 0)))))))
theorem leF10 (fu : Nat) (n : T27) : Le (HF10 fu n) (F10 n) := by
  unfold HF10 F10
  repeat' (with_reducible first | exact leF9 fu _ | exact leF26 fu _ _ | exact leF27 fu _ _ | exact leF28 fu _ | exact le_refl _ | apply le_ite | refine le_bind ?_ (fun _ => ?_))
noncomputable def HF44 (fu : Nat) (s : Arr 4 Int) (c : Int) : Option Bool :=
 (if (0 : Int) ≤ (IntKind.wrap .u8 (Int.tdiv c 64)) ∧ (IntKind.wrap .u8 (Int.tdiv c 64)) < (4 : Int) then
  (ix s.l (IntKind.wrap .u8 (Int.tdiv c 64)) >>= fun v_2 =>
   (if 0 ≤ (Int.tmod c 64) then
    (some ((andI .u64 (shrI .u64 v_2 (Int.tmod c 64)) 1) == 1))
   else none))
 else none)
theorem leF44 (fu : Nat) (s : Arr 4 Int) (c : Int) : Le (HF44 fu s c) (F44 s c) := by
  unfold HF44 F44
  repeat' (with_reducible first | exact le_refl _ | apply le_ite | refine le_bind ?_ (fun _ => ?_))
noncomputable def HF43 (fu : Nat) (p : T34) (text : Str) (place : Int) (from_ : Sl Int) : Option (T34 × Sl Int × Int × Str) :=
 (some (p, from_, place, text))
theorem leF43 (fu : Nat) (p : T34) (text : Str) (place : Int) (from_ : Sl Int) : Le (HF43 fu p text place from_) (F43 p text place from_) := by
  unfold HF43 F43
  repeat' (with_reducible first | exact le_refl _ | apply le_ite | refine le_bind ?_ (fun _ => ?_))
noncomputable def SG57 (fu : Nat) {σ : Type} (Y : Int → σ → Option (Bool × σ)) (ih : St57 σ → Option σ) : St57 σ → Option σ := fun st => match st with
 | .p1 t1_ t3_ t4_ t18_ t19_ t20_ s_ s =>
  (if (decide (t20_ < t19_)) = true then
   (ix (ls t18_) t20_ >>= fun v_6 =>
    (HF58 fu s v_6 >>= fun r_8 =>
     (ih (.p1 t1_ t3_ t4_ t18_ t19_ (IntKind.wrap .i64 (t20_ + 1)) s_ r_8.2))))
  else
   (ih (.p2 t1_ t3_ t4_ 0 s_ s)))
 | .p2 t1_ t3_ t4_ k s_ s =>
  (if (decide (k < ((ls s.list).length : Int))) = true then
   (ix (ls s.list) k >>= fun v_13 =>
    (Y v_13 s_ >>= fun r_15 =>
     (if (!r_15.1) = true then
      (some r_15.2)
     else
      (ix (ls t1_.Code) v_13 >>= fun v_18 =>
       (if (v_18.Kind == 1) = true then
        (ih (.p2 t1_ t3_ t4_ (IntKind.wrap .i64 (k + 1)) r_15.2 s))
       else
        (if (v_18.Kind == 12) = true then
         (ih (.p2 t1_ t3_ t4_ (IntKind.wrap .i64 (k + 1)) r_15.2 s))
        else
         (if (v_18.Kind == 2) = true then
          (HF58 fu s (IntKind.wrap .i64 (v_13 + 1)) >>= fun r_24 =>
           (HF58 fu r_24.2 v_18.To >>= fun r_26 =>
            (ih (.p2 t1_ t3_ t4_ (IntKind.wrap .i64 (k + 1)) r_15.2 r_26.2))))
         else
          (if (v_18.Kind == 3) = true then
           (HF58 fu s v_18.To >>= fun r_29 =>
            (ih (.p2 t1_ t3_ t4_ (IntKind.wrap .i64 (k + 1)) r_15.2 r_29.2)))
          else
           (if (v_18.Kind == 10) = true then
            (if (t3_ == 0) = true then
             (HF58 fu s (IntKind.wrap .i64 (v_13 + 1)) >>= fun r_33 =>
              (ih (.p2 t1_ t3_ t4_ (IntKind.wrap .i64 (k + 1)) r_15.2 r_33.2)))
            else
             (ih (.p2 t1_ t3_ t4_ (IntKind.wrap .i64 (k + 1)) r_15.2 s)))
           else
            (if (v_18.Kind == 11) = true then
             (if (t3_ == ((t4_).length : Int)) = true then
              (HF58 fu s (IntKind.wrap .i64 (v_13 + 1)) >>= fun r_37 =>
               (ih (.p2 t1_ t3_ t4_ (IntKind.wrap .i64 (k + 1)) r_15.2 r_37.2)))
             else
              (ih (.p2 t1_ t3_ t4_ (IntKind.wrap .i64 (k + 1)) r_15.2 s)))
            else
             (HF58 fu s (IntKind.wrap .i64 (v_13 + 1)) >>= fun r_39 =>
              (ih (.p2 t1_ t3_ t4_ (IntKind.wrap .i64 (k + 1)) r_15.2 r_39.2)))))))))))))
  else
   (some s_))
noncomputable def HG57 (fu : Nat) {σ : Type} (Y : Int → σ → Option (Bool × σ)) : St57 σ → Option σ :=
 Nat.rec (motive := fun _ => St57 σ → Option σ) (fun _ => none) (fun fu ih => SG57 fu Y ih) fu
theorem HG57_s (fu : Nat) {σ : Type} (Y : Int → σ → Option (Bool × σ)) (st : St57 σ) : HG57 (fu + 1) Y st = SG57 fu Y (HG57 fu Y) st := rfl
theorem leG57 (fu : Nat) {σ : Type} (Y Y2 : Int → σ → Option (Bool × σ)) (hY : ∀ a b, Le (Y a b) (Y2 a b)) (st : St57 σ) : Le (HG57 fu Y st) (G57 Y2 st) := by
  induction fu generalizing st with
  | zero => exact le_none _
  | succ fu ih =>
    cases st
    · rw [HG57_s, G57.eq_1]
      unfold SG57
      dsimp only
      generalize HG57 fu Y = hh at ih ⊢
      repeat' (with_reducible first | exact ih _ | exact hY _ _ | exact leF58 fu _ _ | exact le_refl _ | apply le_ite | refine le_bind ?_ (fun _ => ?_))
    · rw [HG57_s, G57.eq_2]
      unfold SG57
      dsimp only
      generalize HG57 fu Y = hh at ih ⊢
      repeat' (with_reducible first | exact ih _ | exact hY _ _ | exact leF58 fu _ _ | exact le_refl _ | apply le_ite | refine le_bind ?_ (fun _ => ?_))
noncomputable def HF57 (fu : Nat) {σ : Type} (Y : Int → σ → Option (Bool × σ)) (d0_ : T34) (d1_ : Sl Int) (d2_ : Int) (d3_ : Str) (s_ : σ) : Option σ :=
 (if 0 ≤ ((ls d0_.Code).length : Int) ∧ ((ls d0_.Code).length : Int) = ((ls d0_.Code).length : Int) ∧ (1 : Int) * ((ls d0_.Code).length : Int) ≤ 281474976710656 then
  (HG57 fu Y (.p1 d0_ d2_ d3_ d1_ ((ls d1_).length : Int) 0 s_ ({ in_ := (some (List.replicate (Int.toNat ((ls d0_.Code).length : Int)) (false : Bool))), list := (none : Sl Int) } : T92)))
 else none)
theorem leF57 (fu : Nat) {σ : Type} (Y Y2 : Int → σ → Option (Bool × σ)) (d0_ : T34) (d1_ : Sl Int) (d2_ : Int) (d3_ : Str) (s_ : σ) (hY : ∀ a b, Le (Y a b) (Y2 a b)) : Le (HF57 fu Y d0_ d1_ d2_ d3_ s_) (F57 Y2 d0_ d1_ d2_ d3_ s_) := by
  unfold HF57 F57
  repeat' (with_reducible first | exact hY _ _ | exact leG57 fu _ _ (fun _ _ => by first | exact hY _ _ ) _ | exact le_refl _ | apply le_ite | refine le_bind ?_ (fun _ => ?_))
noncomputable def HB33_1 (fu : Nat) (p : T34) (s : Str) (t6_ : Sl Int) (now : Sl Int) (t24_ : T34) (t24_2 : Sl Int) (t24_3 : Int) (t24_4 : Str) (x : Int) (zz : (Sl Int) × Int × (Sl Int) × Nat) : Option (Bool × ((Sl Int) × Int × (Sl Int) × Nat)) := if zz.2.2.2 = 0 then
 (ix (ls p.Code) x >>= fun v_1 =>
  (if (v_1.Kind == 12) = true then
   (if ((ls zz.1).length + (ls (some ([zz.2.1] : List Int))).length) * 8 ≤ 140737488355328 then
    (some (true, (sapp zz.1 (ls (some ([zz.2.1] : List Int))), zz.2.1, zz.2.2.1, 0)))
   else none)
  else
   (if (v_1.Kind == 1) = true then
    (if (decide (zz.2.1 < ((s).length : Int))) = true then
     (ix s zz.2.1 >>= fun b_11 =>
      (HF44 fu v_1.Set (b_11.toNat : Int) >>= fun r_13 =>
       (if r_13 = true then
        (if ((ls zz.2.2.1).length + (ls (some ([IntKind.wrap .i64 (x + 1)] : List Int))).length) * 8 ≤ 140737488355328 then
         (some (true, (zz.1, zz.2.1, sapp zz.2.2.1 (ls (some ([IntKind.wrap .i64 (x + 1)] : List Int))), 0)))
        else none)
       else
        (some (true, (zz.1, zz.2.1, zz.2.2.1, 0))))))
    else
     (some (true, (zz.1, zz.2.1, zz.2.2.1, 0))))
   else
    (some (true, (zz.1, zz.2.1, zz.2.2.1, 0))))))
else none
theorem leB33_1 (fu : Nat) (p : T34) (s : Str) (t6_ : Sl Int) (now : Sl Int) (t24_ : T34) (t24_2 : Sl Int) (t24_3 : Int) (t24_4 : Str) (x : Int) (zz : (Sl Int) × Int × (Sl Int) × Nat) : Le (HB33_1 fu p s t6_ now t24_ t24_2 t24_3 t24_4 x zz) (B33_1 p s t6_ now t24_ t24_2 t24_3 t24_4 x zz) := by
  unfold HB33_1 B33_1
  repeat' (with_reducible first | exact leF44 fu _ _ | exact le_refl _ | apply le_ite | refine le_bind ?_ (fun _ => ?_))
noncomputable def SG33 (fu : Nat)  (ih : St33 → Option (Sl Int)) : St33 → Option (Sl Int) := fun st => match st with
 | .p1 p s t6_ now out place =>
  (if (decide (((ls now).length : Int) > 0)) = true then
   (HF43 fu p s place now >>= fun r_8 =>
    (ih (.p2 p s t6_ now r_8.1 r_8.2.1 r_8.2.2.1 r_8.2.2.2 out place (none : Sl Int))))
  else
   (some out))
 | .p2 p s t6_ now t24_ t24_2 t24_3 t24_4 out place next =>
  (HF57 fu (HB33_1 fu p s t6_ now t24_ t24_2 t24_3 t24_4) t24_ t24_2 t24_3 t24_4 (out, place, next, 0) >>= fun r_11 =>
   (if r_11.2.2.2 = 0 then
    (ih (.p1 p s t6_ r_11.2.2.1 r_11.1 (IntKind.wrap .i64 (r_11.2.1 + 1))))
   else
    none))
noncomputable def HG33 (fu : Nat)  : St33 → Option (Sl Int) :=
 Nat.rec (motive := fun _ => St33 → Option (Sl Int)) (fun _ => none) (fun fu ih => SG33 fu ih) fu
theorem HG33_s (fu : Nat)  (st : St33) : HG33 (fu + 1) st = SG33 fu (HG33 fu) st := rfl
theorem leG33 (fu : Nat) (st : St33) : Le (HG33 fu st) (G33 st) := by
  induction fu generalizing st with
  | zero => exact le_none _
  | succ fu ih =>
    cases st
    · rw [HG33_s, G33.eq_1]
      unfold SG33
      dsimp only
      generalize HG33 fu = hh at ih ⊢
      repeat' (with_reducible first | exact ih _ | exact leF43 fu _ _ _ _ | exact leF57 fu _ _ _ _ _ _ _ (fun _ _ => by first | exact leB33_1 fu _ _ _ _ _ _ _ _ _ _) | exact leB33_1 fu _ _ _ _ _ _ _ _ _ _ | exact le_refl _ | apply le_ite | refine le_bind ?_ (fun _ => ?_))
    · rw [HG33_s, G33.eq_2]
      unfold SG33
      dsimp only
      generalize HG33 fu = hh at ih ⊢
      repeat' (with_reducible first | exact ih _ | exact leF43 fu _ _ _ _ | exact leF57 fu _ _ _ _ _ _ _ (fun _ _ => by first | exact leB33_1 fu _ _ _ _ _ _ _ _ _ _) | exact leB33_1 fu _ _ _ _ _ _ _ _ _ _ | exact le_refl _ | apply le_ite | refine le_bind ?_ (fun _ => ?_))
noncomputable def HF33 (fu : Nat) (p : T34) (s : Str) (from_ : Int) : Option (Sl Int) :=
 (HG33 fu (.p1 p s none (some ([0] : List Int)) (none : Sl Int) from_))
theorem leF33 (fu : Nat) (p : T34) (s : Str) (from_ : Int) : Le (HF33 fu p s from_) (F33 p s from_) := by
  unfold HF33 F33
  repeat' (with_reducible first | exact leG33 fu _ | exact le_refl _ | apply le_ite | refine le_bind ?_ (fun _ => ?_))
noncomputable def HF56 (fu : Nat) (x_ : T52) : Option Bool :=
 (some (x_.Kind == 9))
theorem leF56 (fu : Nat) (x_ : T52) : Le (HF56 fu x_) (F56 x_) := by
  unfold HF56 F56
  repeat' (with_reducible first | exact le_refl _ | apply le_ite | refine le_bind ?_ (fun _ => ?_))
noncomputable def SG60 (fu : Nat)  (ih : St60 → Option Int) : St60 → Option Int := fun st => match st with
 | .p1 s t7_ t8_ =>
  (if (decide (t8_ < t7_)) = true then
   (ix (ls s) t8_ >>= fun v_2 =>
    (HF56 fu v_2 >>= fun r_4 =>
     (if r_4 = true then
      (some t8_)
     else
      (ih (.p1 s t7_ (IntKind.wrap .i64 (t8_ + 1)))))))
  else
   (some (-1)))
noncomputable def HG60 (fu : Nat)  : St60 → Option Int :=
 Nat.rec (motive := fun _ => St60 → Option Int) (fun _ => none) (fun fu ih => SG60 fu ih) fu
theorem HG60_s (fu : Nat)  (st : St60) : HG60 (fu + 1) st = SG60 fu (HG60 fu) st := rfl
theorem leG60 (fu : Nat) (st : St60) : Le (HG60 fu st) (G60 st) := by
  induction fu generalizing st with
  | zero => exact le_none _
  | succ fu ih =>
    cases st
    · rw [HG60_s, G60.eq_1]
      unfold SG60
      dsimp only
      generalize HG60 fu = hh at ih ⊢
      repeat' (with_reducible first | exact ih _ | exact leF56 fu _ | exact le_refl _ | apply le_ite | refine le_bind ?_ (fun _ => ?_))
noncomputable def HF60 (fu : Nat) (s : Sl T52) : Option Int :=
 (HG60 fu (.p1 s ((ls s).length : Int) 0))
theorem leF60 (fu : Nat) (s : Sl T52) : Le (HF60 fu s) (F60 s) := by
  unfold HF60 F60
  repeat' (with_reducible first | exact leG60 fu _ | exact le_refl _ | apply le_ite | refine le_bind ?_ (fun _ => ?_))
noncomputable def HF55 (fu : Nat) (s : Sl T52) : Option Bool :=
 (HF60 fu s >>= fun r_1 =>
  (some (decide (r_1 ≥ 0))))
theorem leF55 (fu : Nat) (s : Sl T52) : Le (HF55 fu s) (F55 s) := by
  unfold HF55 F55
  repeat' (with_reducible first | exact leF60 fu _ | exact le_refl _ | apply le_ite | refine le_bind ?_ (fun _ => ?_))
noncomputable def HF42 (fu : Nat) (p : T34) : Option Bool :=
 (HF55 fu p.Code >>= fun r_1 =>
  (some r_1))
theorem leF42 (fu : Nat) (p : T34) : Le (HF42 fu p) (F42 p) := by
  unfold HF42 F42
  repeat' (with_reducible first | exact leF55 fu _ | exact le_refl _ | apply le_ite | refine le_bind ?_ (fun _ => ?_))
noncomputable def SG11 (fu : Nat)  (ih : St11 → Option Bool) : St11 → Option Bool := fun st => match st with
 | .p1 p n t38_ t39_ t40_ =>
  (if (decide (t40_ < t39_)) = true then
   (ix (ls t38_) t40_ >>= fun v_8 =>
    (if (v_8.Kind == 1) = true then
     (ih (.p2 p n t40_ true t38_ t39_ t40_ v_8 ({ Kind := v_8.Kind, Set := v_8.Set, To := 0, Group := 0, Last := 0, Slot := 0 } : T52)))
    else
     (if (v_8.Kind == 2) = true then
      (ih (.p3 p n t40_ t38_ t39_ t40_ v_8 ({ Kind := v_8.Kind, Set := (Arr.rep 4 0), To := 0, Group := 0, Last := 0, Slot := 0 } : T52)))
     else
      (if (v_8.Kind == 3) = true then
       (ih (.p3 p n t40_ t38_ t39_ t40_ v_8 ({ Kind := v_8.Kind, Set := (Arr.rep 4 0), To := 0, Group := 0, Last := 0, Slot := 0 } : T52)))
      else
       (if (v_8.Kind == 4) = true then
        (ih (.p4 p n t40_ t38_ t39_ t40_ v_8 ({ Kind := v_8.Kind, Set := (Arr.rep 4 0), To := 0, Group := 0, Last := 0, Slot := 0 } : T52)))
       else
        (if (v_8.Kind == 5) = true then
         (ih (.p4 p n t40_ t38_ t39_ t40_ v_8 ({ Kind := v_8.Kind, Set := (Arr.rep 4 0), To := 0, Group := 0, Last := 0, Slot := 0 } : T52)))
        else
         (if (v_8.Kind == 9) = true then
          (ih (.p4 p n t40_ t38_ t39_ t40_ v_8 ({ Kind := v_8.Kind, Set := (Arr.rep 4 0), To := 0, Group := 0, Last := 0, Slot := 0 } : T52)))
         else
          (if (v_8.Kind == 6) = true then
           (if (decide (v_8.Group ≥ 1)) = true then
            (if (decide (v_8.Group ≤ p.Groups)) = true then
             (if (decide (v_8.Last ≥ v_8.Group)) = true then
              (ih (.p2 p n t40_ (decide (v_8.Last ≤ p.Groups)) t38_ t39_ t40_ v_8 ({ Kind := v_8.Kind, Set := (Arr.rep 4 0), To := 0, Group := v_8.Group, Last := v_8.Last, Slot := 0 } : T52)))
             else
              (ih (.p2 p n t40_ false t38_ t39_ t40_ v_8 ({ Kind := v_8.Kind, Set := (Arr.rep 4 0), To := 0, Group := v_8.Group, Last := v_8.Last, Slot := 0 } : T52))))
            else
             (ih (.p2 p n t40_ false t38_ t39_ t40_ v_8 ({ Kind := v_8.Kind, Set := (Arr.rep 4 0), To := 0, Group := v_8.Group, Last := v_8.Last, Slot := 0 } : T52))))
           else
            (ih (.p2 p n t40_ false t38_ t39_ t40_ v_8 ({ Kind := v_8.Kind, Set := (Arr.rep 4 0), To := 0, Group := v_8.Group, Last := v_8.Last, Slot := 0 } : T52))))
          else
           (if (v_8.Kind == 7) = true then
            (ih (.p5 p n t40_ t38_ t39_ t40_ v_8 ({ Kind := v_8.Kind, Set := (Arr.rep 4 0), To := 0, Group := 0, Last := 0, Slot := 0 } : T52)))
           else
            (if (v_8.Kind == 8) = true then
             (ih (.p5 p n t40_ t38_ t39_ t40_ v_8 ({ Kind := v_8.Kind, Set := (Arr.rep 4 0), To := 0, Group := 0, Last := 0, Slot := 0 } : T52)))
            else
             (if (v_8.Kind == 10) = true then
              (ih (.p2 p n t40_ true t38_ t39_ t40_ v_8 ({ Kind := v_8.Kind, Set := (Arr.rep 4 0), To := 0, Group := 0, Last := 0, Slot := 0 } : T52)))
             else
              (if (v_8.Kind == 11) = true then
               (ih (.p2 p n t40_ true t38_ t39_ t40_ v_8 ({ Kind := v_8.Kind, Set := (Arr.rep 4 0), To := 0, Group := 0, Last := 0, Slot := 0 } : T52)))
              else
               (if (v_8.Kind == 12) = true then
                (ih (.p2 p n t40_ true t38_ t39_ t40_ v_8 ({ Kind := v_8.Kind, Set := (Arr.rep 4 0), To := 0, Group := 0, Last := 0, Slot := 0 } : T52)))
               else
                (some false))))))))))))))
  else
   (some true))
 | .p2 p n i ok t38_ t39_ t40_ x_ plain =>
  (if (!ok) = true then
   (some false)
  else
   (if (!decide (plain = x_)) = true then
    (some false)
   else
    (if (!((x_.Kind == 12) == (i == (IntKind.wrap .i64 (n - 1))))) = true then
     (some false)
    else
     (ih (.p1 p n t38_ t39_ (IntKind.wrap .i64 (t40_ + 1)))))))
 | .p3 p n i t38_ t39_ t40_ x_ plain =>
  (if (decide (x_.To ≥ 0)) = true then
   (ih (.p2 p n i (decide (x_.To < n)) t38_ t39_ t40_ x_ ({ plain with To := x_.To } : T52)))
  else
   (ih (.p2 p n i false t38_ t39_ t40_ x_ ({ plain with To := x_.To } : T52))))
 | .p4 p n i t38_ t39_ t40_ x_ plain =>
  (if (decide (x_.Group ≥ 1)) = true then
   (ih (.p2 p n i (decide (x_.Group ≤ p.Groups)) t38_ t39_ t40_ x_ ({ plain with Group := x_.Group } : T52)))
  else
   (ih (.p2 p n i false t38_ t39_ t40_ x_ ({ plain with Group := x_.Group } : T52))))
 | .p5 p n i t38_ t39_ t40_ x_ plain =>
  (if (decide (x_.Slot ≥ 0)) = true then
   (ih (.p2 p n i (decide (x_.Slot < p.Slots)) t38_ t39_ t40_ x_ ({ plain with Slot := x_.Slot } : T52)))
  else
   (ih (.p2 p n i false t38_ t39_ t40_ x_ ({ plain with Slot := x_.Slot } : T52))))
noncomputable def HG11 (fu : Nat)  : St11 → Option Bool :=
 Nat.rec (motive := fun _ => St11 → Option Bool) (fun _ => none) (fun fu ih => SG11 fu ih) fu
theorem HG11_s (fu : Nat)  (st : St11) : HG11 (fu + 1) st = SG11 fu (HG11 fu) st := rfl
theorem leG11 (fu : Nat) (st : St11) : Le (HG11 fu st) (G11 st) := by
  induction fu generalizing st with
  | zero => exact le_none _
  | succ fu ih =>
    cases st
    · rw [HG11_s, G11.eq_1]
      unfold SG11
      dsimp only
      generalize HG11 fu = hh at ih ⊢
      repeat' (with_reducible first | exact ih _ | exact le_refl _ | apply le_ite | refine le_bind ?_ (fun _ => ?_))
    · rw [HG11_s, G11.eq_2]
      unfold SG11
      dsimp only
      generalize HG11 fu = hh at ih ⊢
      repeat' (with_reducible first | exact ih _ | exact le_refl _ | apply le_ite | refine le_bind ?_ (fun _ => ?_))
    · rw [HG11_s, G11.eq_3]
      unfold SG11
      dsimp only
      generalize HG11 fu = hh at ih ⊢
      repeat' (with_reducible first | exact ih _ | exact le_refl _ | apply le_ite | refine le_bind ?_ (fun _ => ?_))
    · rw [HG11_s, G11.eq_4]
      unfold SG11
      dsimp only
      generalize HG11 fu = hh at ih ⊢
      repeat' (with_reducible first | exact ih _ | exact le_refl _ | apply le_ite | refine le_bind ?_ (fun _ => ?_))
    · rw [HG11_s, G11.eq_5]
      unfold SG11
      dsimp only
      generalize HG11 fu = hh at ih ⊢
      repeat' (with_reducible first | exact ih _ | exact le_refl _ | apply le_ite | refine le_bind ?_ (fun _ => ?_))
noncomputable def HF11 (fu : Nat) (p : T34) : Option Bool :=
 (if (decide (p.Groups < 0)) = true then
  (some false)
 else
  (if (decide (p.Groups > 99)) = true then
   (some false)
  else
   (if (decide (p.Slots < 0)) = true then
    (some false)
   else
    (if (decide (p.Slots > 16384)) = true then
     (some false)
    else
     (if (decide (((ls p.Code).length : Int) < 1)) = true then
      (some false)
     else
      (if (decide (((ls p.Code).length : Int) > 16384)) = true then
       (some false)
      else
       (HG11 fu (.p1 p ((ls p.Code).length : Int) p.Code ((ls p.Code).length : Int) 0))))))))
theorem leF11 (fu : Nat) (p : T34) : Le (HF11 fu p) (F11 p) := by
  unfold HF11 F11
  repeat' (with_reducible first | exact leG11 fu _ | exact le_refl _ | apply le_ite | refine le_bind ?_ (fun _ => ?_))
noncomputable def HF32 (fu : Nat) (p : T34) : Option Int :=
 (HF11 fu p >>= fun r_1 =>
  (if (!r_1) = true then
   (some 100)
  else
   (HF42 fu p >>= fun r_4 =>
    (if r_4 = true then
     (some 101)
    else
     (some 0)))))
theorem leF32 (fu : Nat) (p : T34) : Le (HF32 fu p) (F32 p) := by
  unfold HF32 F32
  repeat' (with_reducible first | exact leF11 fu _ | exact leF42 fu _ | exact le_refl _ | apply le_ite | refine le_bind ?_ (fun _ => ?_))
noncomputable def SG23 (fu : Nat)  (ih : St23 → Option (T56 × Bool × Int)) : St23 → Option (T56 × Bool × Int) := fun st => match st with
 | .p1 t6_ =>
  (some (({ From := 0, To := 0 } : T56), false, 2))
 | .p2 s p i t6_ =>
  (if (decide (i ≤ ((s).length : Int))) = true then
   (HF33 fu p s i >>= fun r_8 =>
    (if (decide (((ls r_8).length : Int) > 0)) = true then
     (ix (ls r_8) (IntKind.wrap .i64 (((ls r_8).length : Int) - 1)) >>= fun v_11 =>
      (some (({ From := i, To := v_11 } : T56), true, 0)))
    else
     (ih (.p2 s p (IntKind.wrap .i64 (i + 1)) t6_))))
  else
   (some (({ From := 0, To := 0 } : T56), false, 0)))
noncomputable def HG23 (fu : Nat)  : St23 → Option (T56 × Bool × Int) :=
 Nat.rec (motive := fun _ => St23 → Option (T56 × Bool × Int)) (fun _ => none) (fun fu ih => SG23 fu ih) fu
theorem HG23_s (fu : Nat)  (st : St23) : HG23 (fu + 1) st = SG23 fu (HG23 fu) st := rfl
theorem leG23 (fu : Nat) (st : St23) : Le (HG23 fu st) (G23 st) := by
  induction fu generalizing st with
  | zero => exact le_none _
  | succ fu ih =>
    cases st
    · rw [HG23_s, G23.eq_1]
      unfold SG23
      dsimp only
      generalize HG23 fu = hh at ih ⊢
      repeat' (with_reducible first | exact ih _ | exact leF33 fu _ _ _ | exact le_refl _ | apply le_ite | refine le_bind ?_ (fun _ => ?_))
    · rw [HG23_s, G23.eq_2]
      unfold SG23
      dsimp only
      generalize HG23 fu = hh at ih ⊢
      repeat' (with_reducible first | exact ih _ | exact leF33 fu _ _ _ | exact le_refl _ | apply le_ite | refine le_bind ?_ (fun _ => ?_))
noncomputable def HF23 (fu : Nat) (p : T34) (s : Str) (from_ : Int) : Option (T56 × Bool × Int) :=
 (HF32 fu p >>= fun r_2 =>
  (if (r_2 != 0) = true then
   (some (({ From := 0, To := 0 } : T56), false, r_2))
  else
   (if (decide (from_ < 0)) = true then
    (HG23 fu (.p1 ({ From := 0, To := 0 } : T56)))
   else
    (if (decide (from_ > ((s).length : Int))) = true then
     (HG23 fu (.p1 ({ From := 0, To := 0 } : T56)))
    else
     (HG23 fu (.p2 s p from_ ({ From := 0, To := 0 } : T56)))))))
theorem leF23 (fu : Nat) (p : T34) (s : Str) (from_ : Int) : Le (HF23 fu p s from_) (F23 p s from_) := by
  unfold HF23 F23
  repeat' (with_reducible first | exact leF32 fu _ | exact leG23 fu _ | exact le_refl _ | apply le_ite | refine le_bind ?_ (fun _ => ?_))
noncomputable def HF8 (fu : Nat)  : Option Bool :=
 (HF10 fu ({ Kind := 5, Set := (Arr.rep 4 0), Min := 1, Max := (-1), Group := 0, Kids := (some ([({ Kind := 2, Set := (aset (aset (Arr.rep 4 0) 0 0) 1 8589934592), Min := 0, Max := 0, Group := 0, Kids := none } : T27)] : List T27)) } : T27) >>= fun r_3 =>
  (HF9 fu ({ Kind := 5, Set := (Arr.rep 4 0), Min := 1, Max := (-1), Group := 0, Kids := (some ([({ Kind := 2, Set := (aset (aset (Arr.rep 4 0) 0 0) 1 8589934592), Min := 0, Max := 0, Group := 0, Kids := none } : T27)] : List T27)) } : T27) >>= fun r_6 =>
   (HF23 fu r_3.1 ([98, 97, 97] : Str) 0 >>= fun r_8 =>
    (if (r_3.2 == 0) = true then
     (if (r_6.2 == 0) = true then
      (if (r_6.1 == 7) = true then
       (if (((ls r_3.1.Code).length : Int) == 7) = true then
        (if (r_8.2.2 == 0) = true then
         (if r_8.2.1 = true then
          (some (decide (r_8.1 = ({ From := 1, To := 3 } : T56))))
         else
          (some false))
        else
         (some false))
       else
        (some false))
      else
       (some false))
     else
      (some false))
    else
     (some false)))))
theorem leF8 (fu : Nat)  : Le (HF8 fu ) (F8 ) := by
  unfold HF8 F8
  repeat' (with_reducible first | exact leF10 fu _ | exact leF9 fu _ | exact leF23 fu _ _ _ | exact le_refl _ | apply le_ite | refine le_bind ?_ (fun _ => ?_))
end Go.Proofs.Ytjbafmnocopofaa
end
section
/-
  The small expression with which each law begins.
-/


namespace Go.Proofs.Ytjbafmnocopofaa
open Go AW
theorem f8 : F8 = some true := leF8 60 true (by kernel_rfl)
end Go.Proofs.Ytjbafmnocopofaa
end
section
/-
  NfaParts, plain: two expressions without groups, one behind the other, end where the second ends from where the first does; one or the other, where either does.
-/



namespace Go.Proofs.Ytjbafmnocopofaa
open Go AW
set_option linter.unusedVariables false
set_option linter.unusedSimpArgs false
set_option linter.unusedSectionVars false
set_option maxHeartbeats 4000000
/-- A row of marks. -/
def Bv (N : Nat) (o : Sl Bool) (P : Nat → Prop) : Prop := ∃ l : List Bool, o = some l ∧ l.length = N ∧ ∀ j, j < N → ∃ v, l[j]? = some v ∧ (v = true ↔ P j)
theorem Bv.set {N : Nat} {o : Sl Bool} {P Q : Nat → Prop} (h : Bv N o P) (i : Nat) (hi : i < N) (hQ : ∀ j, Q j ↔ P j ∨ j = i) : Bv N (vset o (i : Int) true) Q := by
  obtain ⟨l, rfl, hl, hv⟩ := h
  refine ⟨l.set i true, rfl, by simp [hl], fun j hj => ?_⟩
  rw [List.getElem?_set]
  by_cases e : i = j
  · subst e
    exact ⟨true, by simp [hl, hj], by simp [hQ]⟩
  · rw [if_neg e]
    obtain ⟨v, h1, h2⟩ := hv j hj
    refine ⟨v, h1, ?_⟩
    rw [h2, hQ]
    constructor
    · exact .inl
    · rintro (h | h)
      · exact h
      · exact absurd h.symm e
theorem Bv.ix {N : Nat} {o : Sl Bool} {P : Nat → Prop} (h : Bv N o P) {i : Nat} (hi : i < N) : ∃ v, ix (ls o) (i : Int) = some v ∧ (v = true ↔ P i) := by
  obtain ⟨l, rfl, hl, hv⟩ := h
  obtain ⟨v, h1, h2⟩ := hv i hi
  exact ⟨v, ixs h1, h2⟩
theorem Bv.cong {N : Nat} {o : Sl Bool} {P Q : Nat → Prop} (h : Bv N o P) (hq : ∀ j, Q j ↔ P j) : Bv N o Q := by
  obtain ⟨l, h1, h2, h3⟩ := h
  exact ⟨l, h1, h2, fun j hj => by obtain ⟨v, k1, k2⟩ := h3 j hj; exact ⟨v, k1, by rw [k2, hq]⟩⟩
theorem ixn {l : List Nat} {k x : Nat} (h : l[k]? = some x) : ix (ls (so (ints l))) (k : Int) = some (x : Int) := by rw [ls_so]; exact ixs (by simp [ints, h])
section
variable {s : Str} (hs : s.length ≤ 1048576)
include hs
theorem g4_2 (b : T27) (x y cat alt two : Sl Int) (i : Nat) (Z : List Nat) (hZ : ∀ z ∈ Z, z ≤ s.length) (hZl : Z.length ≤ 10000000) (tw : Sl Bool) (hi : i ≤ 10000000) : ∀ (m k : Nat) (one : Sl Bool) (P : Nat → Prop), m + k = Z.length → Bv (s.length + 1) one P →
    ∃ one', G4 (.p2 s b x y cat alt (i : Int) (so (ints Z)) (k : Int) one tw) = G4 (.p1 s b x y cat alt ((i + 1 : Nat) : Int) one' tw) ∧ Bv (s.length + 1) one' (fun j => P j ∨ j ∈ Z.drop k)
  | 0, k, one, P, h, hP => by
    rw [G4.eq_2, dfi (by rw [ls_so]; simp [ints]; omega), wn1 i (by omega)]
    exact ⟨one, rfl, hP.cong fun j => by rw [List.drop_of_length_le (by omega)]; simp⟩
  | m + 1, k, one, P, h, hP => by
    obtain ⟨z, hz⟩ := get_ex Z (i := k) (by omega)
    have hzl := hZ z (List.mem_of_getElem? hz)
    obtain ⟨v, hv, _⟩ := hP.ix (i := z) (by omega)
    rw [G4.eq_2, dti (by rw [ls_so]; simp [ints]; omega), ixn hz, sm, hv, sm, wn1 k (by omega)]
    obtain ⟨one', e, hB⟩ := g4_2 b x y cat alt two i Z hZ hZl tw hi m (k + 1) (vset one (z : Int) true) (fun j => P j ∨ j = z) (by omega) (hP.set z (by omega) fun j => Iff.rfl)
    refine ⟨one', e, hB.cong fun j => ?_⟩
    rw [drop_cons hz, List.mem_cons, or_assoc]
theorem g4_1 (b : T27) (hb : ∀ r : Nat, r ≤ s.length → F14 b s (r : Int) = some (so (ints (EN (prg b) s r)), true)) (X : List Nat) (hX : ∀ z ∈ X, z ≤ s.length) (hXl : X.length ≤ 10000000) (y cat alt : Sl Int) : ∀ (m i : Nat) (one two : Sl Bool) (P Q : Nat → Prop), m + i = X.length → Bv (s.length + 1) one P → Bv (s.length + 1) two Q →
    ∃ one' two', G4 (.p1 s b (so (ints X)) y cat alt (i : Int) one two) = G4 (.p3 s y cat alt 0 one' two') ∧ Bv (s.length + 1) one' (fun j => P j ∨ ∃ r ∈ X.drop i, j ∈ EN (prg b) s r) ∧ Bv (s.length + 1) two' (fun j => Q j ∨ j ∈ X.drop i)
  | 0, i, one, two, P, Q, h, hP, hQ => by
    rw [G4.eq_1, dfi (by rw [ls_so]; simp [ints]; omega)]
    exact ⟨one, two, rfl, hP.cong fun j => by rw [List.drop_of_length_le (by omega)]; simp, hQ.cong fun j => by rw [List.drop_of_length_le (by omega)]; simp⟩
  | m + 1, i, one, two, P, Q, h, hP, hQ => by
    obtain ⟨r, hr⟩ := get_ex X (i := i) (by omega)
    have hrl := hX r (List.mem_of_getElem? hr)
    obtain ⟨v, hv, _⟩ := hQ.ix (i := r) (by omega)
    have hel := en_len (prg b) s r
    rw [G4.eq_1, dti (by rw [ls_so]; simp [ints]; omega), ixn hr, sm, hv, sm, sm, hb r hrl, sm, if_neg (by simp)]
    obtain ⟨one', e, hB⟩ := g4_2 hs b (so (ints X)) y cat alt none i (EN (prg b) s r) (fun z hz => (en_mem hz).2) (by omega) (vset two (r : Int) true) (by omega) (EN (prg b) s r).length 0 one P (by omega) hP
    have e' : G4 (.p2 s b (so (ints X)) y cat alt (i : Int) (so (ints (EN (prg b) s r))) 0 one (vset two (r : Int) true)) = _ := e
    obtain ⟨one2, two2, e2, h1, h2⟩ := g4_1 b hb X hX hXl y cat alt m (i + 1) one' (vset two (r : Int) true) _ (fun j => Q j ∨ j = r) (by omega) hB (hQ.set r (by omega) fun j => Iff.rfl)
    refine ⟨one2, two2, e'.trans e2, h1.cong fun j => ?_, h2.cong fun j => ?_⟩
    · rw [drop_cons hr, List.drop_zero]
      simp only [List.mem_cons, exists_eq_or_imp, or_assoc]
    · rw [drop_cons hr, List.mem_cons, or_assoc]
theorem g4_3 (Y : List Nat) (hY : ∀ z ∈ Y, z ≤ s.length) (hYl : Y.length ≤ 10000000) (cat alt : Sl Int) (one : Sl Bool) : ∀ (m i : Nat) (two : Sl Bool) (Q : Nat → Prop), m + i = Y.length → Bv (s.length + 1) two Q →
    ∃ two', G4 (.p3 s (so (ints Y)) cat alt (i : Int) one two) = G4 (.p4 s cat alt 0 one two' none none) ∧ Bv (s.length + 1) two' (fun j => Q j ∨ j ∈ Y.drop i)
  | 0, i, two, Q, h, hQ => by
    rw [G4.eq_3, dfi (by rw [ls_so]; simp [ints]; omega)]
    exact ⟨two, rfl, hQ.cong fun j => by rw [List.drop_of_length_le (by omega)]; simp⟩
  | m + 1, i, two, Q, h, hQ => by
    obtain ⟨r, hr⟩ := get_ex Y (i := i) (by omega)
    have hrl := hY r (List.mem_of_getElem? hr)
    obtain ⟨v, hv, _⟩ := hQ.ix (i := r) (by omega)
    rw [G4.eq_3, dti (by rw [ls_so]; simp [ints]; omega), ixn hr, sm, hv, sm, wn1 i (by omega)]
    obtain ⟨two', e, hB⟩ := g4_3 Y hY hYl cat alt one m (i + 1) (vset two (r : Int) true) (fun j => Q j ∨ j = r) (by omega) (hQ.set r (by omega) fun j => Iff.rfl)
    refine ⟨two', e, hB.cong fun j => ?_⟩
    rw [drop_cons hr, List.mem_cons, or_assoc]
theorem g4_4 (cat alt : Sl Int) (one two : Sl Bool) (P Q : Nat → Prop) (hP : Bv (s.length + 1) one P) (hQ : Bv (s.length + 1) two Q) : ∀ (m i : Nat) (W V : List Nat), m + i = s.length + 1 → W.length ≤ i → V.length ≤ i →
    ∃ W' V', G4 (.p4 s cat alt (i : Int) one two (so (ints (W))) (so (ints V))) = (F15 cat (so (ints (W ++ W'))) >>= fun r => if r = true then F15 alt (so (ints (V ++ V'))) >>= fun r => some r else some false) ∧
      (∀ j, j ∈ W' ↔ i ≤ j ∧ j ≤ s.length ∧ P j) ∧ W'.Pairwise (· < ·) ∧ (∀ j, j ∈ V' ↔ i ≤ j ∧ j ≤ s.length ∧ Q j) ∧ V'.Pairwise (· < ·)
  | 0, i, W, V, h, hW, hV => by
    rw [G4.eq_4, dfi (by omega)]
    exact ⟨[], [], by simp, by simp; omega, .nil, by simp; omega, .nil⟩
  | m + 1, i, W, V, h, hW, hV => by
    obtain ⟨v, hv, hvP⟩ := hP.ix (i := i) (by omega)
    obtain ⟨u, hu, huQ⟩ := hQ.ix (i := i) (by omega)
    have ap : ∀ L : List Nat, sapp (so (ints L)) (ls (some [(i : Int)])) = so (ints (L ++ [i])) := fun L => by rw [show ls (some [(i : Int)]) = ints [i] from rfl, sapp_so]; simp [ints]
    have gd : ∀ L : List Nat, L.length ≤ i → ((ls (so (ints L))).length + (ls (some [(i : Int)])).length) * 8 ≤ 140737488355328 := fun L hL => by rw [ls_so]; simp [ints, ls]; omega
    obtain ⟨W1, hW1, hW1l, hW1m⟩ : ∃ W1 : List Nat, (if v = true then W1 = [i] else W1 = []) ∧ (W ++ W1).length ≤ i + 1 ∧ ∀ j, j ∈ W1 ↔ j = i ∧ P i := by
      cases v with
      | false => exact ⟨[], by simp, by simp; omega, fun j => by simp at hvP; simp [hvP]⟩
      | true => exact ⟨[i], by simp, by simp; omega, fun j => by simp at hvP; simp [hvP]⟩
    obtain ⟨V1, hV1, hV1l, hV1m⟩ : ∃ V1 : List Nat, (if u = true then V1 = [i] else V1 = []) ∧ (V ++ V1).length ≤ i + 1 ∧ ∀ j, j ∈ V1 ↔ j = i ∧ Q i := by
      cases u with
      | false => exact ⟨[], by simp, by simp; omega, fun j => by simp at huQ; simp [huQ]⟩
      | true => exact ⟨[i], by simp, by simp; omega, fun j => by simp at huQ; simp [huQ]⟩
    obtain ⟨W', V', e, a1, a2, a3, a4⟩ := g4_4 cat alt one two P Q hP hQ m (i + 1) (W ++ W1) (V ++ V1) (by omega) hW1l hV1l
    refine ⟨W1 ++ W', V1 ++ V', ?_, ?_, ?_, ?_, ?_⟩
    · rw [← List.append_assoc, ← List.append_assoc, ← e, G4.eq_4, dti (by omega), hv, sm]
      have step : ∀ A : List Nat, G4 (.p5 s cat alt (i : Int) one two (so (ints A)) (so (ints V))) = G4 (.p4 s cat alt ((i + 1 : Nat) : Int) one two (so (ints A)) (so (ints (V ++ V1)))) := fun A => by
        rw [G4.eq_5, hu, sm, wn1 i (by omega)]
        cases u with
        | false => simp at hV1; subst hV1; rw [if_neg (by simp), List.append_nil]
        | true => simp at hV1; subst hV1; rw [if_pos rfl, if_pos (gd V hV), ap]
      cases v with
      | false => simp at hW1; subst hW1; rw [if_neg (by simp), step, List.append_nil]
      | true => simp at hW1; subst hW1; rw [if_pos rfl, if_pos (gd W hW), ap, step]
    · intro j
      rw [List.mem_append, hW1m, a1]
      constructor
      · rintro (⟨rfl, h⟩ | ⟨h1, h2, h3⟩)
        · exact ⟨by omega, by omega, h⟩
        · exact ⟨by omega, h2, h3⟩
      · rintro ⟨h1, h2, h3⟩
        by_cases e : j = i
        · subst e; exact .inl ⟨rfl, h3⟩
        · exact .inr ⟨by omega, h2, h3⟩
    · rw [List.pairwise_append]
      refine ⟨?_, a2, fun x hx y hy => ?_⟩
      · cases v <;> simp at hW1 <;> subst hW1 <;> simp
      · have := (hW1m x).1 hx; have := (a1 y).1 hy; omega
    · intro j
      rw [List.mem_append, hV1m, a3]
      constructor
      · rintro (⟨rfl, h⟩ | ⟨h1, h2, h3⟩)
        · exact ⟨by omega, by omega, h⟩
        · exact ⟨by omega, h2, h3⟩
      · rintro ⟨h1, h2, h3⟩
        by_cases e : j = i
        · subst e; exact .inl ⟨rfl, h3⟩
        · exact .inr ⟨by omega, h2, h3⟩
    · rw [List.pairwise_append]
      refine ⟨?_, a4, fun x hx y hy => ?_⟩
      · cases u <;> simp at hV1 <;> subst hV1 <;> simp
      · have := (hV1m x).1 hx; have := (a3 y).1 hy; omega
end
theorem bkrl_cnt : ∀ (l : List T27), (∀ k ∈ l, cnt k ≤ bkr27 k) → cntl l ≤ bkrl27 l
  | [], _ => by rw [cntl, bkrl27]; omega
  | x :: l, h => by have := h x (by simp); have := bkrl_cnt l fun k hk => h k (by simp [hk]); rw [cntl, bkrl27]; omega
theorem bkr_eq (n : T27) : bkrl27 (ls n.Kids) + 1 ≤ bkr27 n := by
  obtain ⟨_, _, _, _, _, o⟩ := n
  rw [bkr27]
  cases o with
  | none => simp [ls, bkrl27, bkro27]
  | some l => simp [ls, bkro27]; omega
theorem bkr_cnt : ∀ n : T27, cnt n ≤ bkr27 n := by
  intro n
  induction n using tree_ind with
  | h n ih =>
    have := bkrl_cnt _ ih
    have := bkr_eq n
    rw [cnt_eq]; omega
theorem f14' (n : T27) (s : Str) (fr : Int) (hs : s.length ≤ 100000000) : ∃ l ok, F14 n s fr = some (l, ok) ∧ (ok = true → Gd n ∧ 0 ≤ fr ∧ fr ≤ (s.length : Int) ∧ l = so (ints (EN (prg n) s fr.toNat)) ∧ ∀ r : Nat, r ≤ s.length → F14 n s (r : Int) = some (so (ints (EN (prg n) s r)), true)) := by
  rcases f14 n with ⟨g, h⟩ | h
  · by_cases e1 : flt (prg n) ≠ 0
    · exact ⟨_, _, by rw [h s fr hs, if_pos e1], fun e => by cases e⟩
    · by_cases e2 : fr < 0 ∨ (s.length : Int) < fr
      · exact ⟨_, _, by rw [h s fr hs, if_neg e1, if_pos e2], fun e => by cases e⟩
      · exact ⟨_, _, by rw [h s fr hs, if_neg e1, if_neg e2], fun _ => ⟨g, by omega, by omega, rfl, fun r hr => by rw [h s r hs, if_neg e1, if_neg (by omega), Int.toNat_natCast]⟩⟩
  · exact ⟨_, _, h s fr, fun e => by cases e⟩
theorem pureUNfaParts (a0 : T27) (a1 : T27) (a2 : Str) (a3 : Int) (w0 : okr27 a0) (w1 : okr27 a1) (w3 : (Lit.int .i64 a3).wf = true) (hb : bkr27 a0 + bkr27 a1 + bkS a2 + 1 ≤ 1048576) : F4 a0 a1 a2 a3 = some true := by
  have c0 := bkr_cnt a0
  have c1 := bkr_cnt a1
  have hs : a2.length ≤ 1048576 := by unfold bkS at hb; omega
  unfold F4 F13
  rw [f8, sm, if_neg (by simp), g13 a0 (by omega), sm]
  by_cases hg0 : (gcnt a0 : Int) > 0
  · rw [dti hg0]
  rw [dfi hg0, g13 a1 (by omega), sm]
  by_cases hg1 : (gcnt a1 : Int) > 0
  · rw [dti hg1]
  rw [dfi hg1]
  obtain ⟨la, oa, ea, ha⟩ := f14' a0 a2 a3 (by omega)
  obtain ⟨lb, ob, eb, hb'⟩ := f14' a1 a2 a3 (by omega)
  obtain ⟨lc, oc, ec, hc⟩ := f14' (catN a0 a1) a2 a3 (by omega)
  obtain ⟨ld, od, ed, hd⟩ := f14' (altN a0 a1) a2 a3 (by omega)
  rw [ea, sm, eb, sm, ec, sm, ed, sm]
  cases oa with
  | false => rfl
  | true =>
  cases ob with
  | false => rfl
  | true =>
  cases oc with
  | false => rfl
  | true =>
  cases od with
  | false => rfl
  | true =>
  obtain ⟨ga, h1, h2, rfl, ra⟩ := ha rfl
  obtain ⟨gb, _, _, rfl, rb⟩ := hb' rfl
  obtain ⟨gc, _, _, rfl, _⟩ := hc rfl
  obtain ⟨gd, _, _, rfl, _⟩ := hd rfl
  obtain ⟨f, rfl⟩ := nat_of h1
  rw [Int.toNat_natCast]
  simp only [Bool.not_true, Bool.false_eq_true, if_false]
  have e1 : IntKind.wrap .i64 ((a2.length : Int) + 1) = ((a2.length + 1 : Nat) : Int) := wn1 _ (by omega)
  rw [e1, if_pos ⟨by omega, trivial, by omega⟩, if_pos ⟨by omega, trivial, by omega⟩, Int.toNat_natCast]
  have hB : Bv (a2.length + 1) (some (List.replicate (a2.length + 1) false)) (fun _ => False) := ⟨_, rfl, by simp, fun j hj => ⟨false, by simp [List.getElem?_replicate, hj], by simp⟩⟩
  have el := fun (n : T27) => en_len (prg n) a2 f
  have em := fun (n : T27) z (hz : z ∈ EN (prg n) a2 f) => (en_mem hz).2
  obtain ⟨one, two, k1, k2, k3⟩ := g4_1 hs a1 rb (EN (prg a0) a2 f) (em a0) (by have := el a0; omega) (so (ints (EN (prg a1) a2 f))) (so (ints (EN (prg (catN a0 a1)) a2 f))) (so (ints (EN (prg (altN a0 a1)) a2 f))) (EN (prg a0) a2 f).length 0 _ _ _ _ (by omega) hB hB
  have k1' : G4 (.p1 a2 a1 (so (ints (EN (prg a0) a2 f))) (so (ints (EN (prg a1) a2 f))) (so (ints (EN (prg (catN a0 a1)) a2 f))) (so (ints (EN (prg (altN a0 a1)) a2 f))) 0 (some (List.replicate (a2.length + 1) false)) (some (List.replicate (a2.length + 1) false))) = _ := k1
  obtain ⟨two', m1, m2⟩ := g4_3 hs (EN (prg a1) a2 f) (em a1) (by have := el a1; omega) (so (ints (EN (prg (catN a0 a1)) a2 f))) (so (ints (EN (prg (altN a0 a1)) a2 f))) one (EN (prg a1) a2 f).length 0 two _ (by omega) k3
  have m1' : G4 (.p3 a2 (so (ints (EN (prg a1) a2 f))) (so (ints (EN (prg (catN a0 a1)) a2 f))) (so (ints (EN (prg (altN a0 a1)) a2 f))) 0 one two) = _ := m1
  obtain ⟨W, V, n1, n2, n3, n4, n5⟩ := g4_4 hs (so (ints (EN (prg (catN a0 a1)) a2 f))) (so (ints (EN (prg (altN a0 a1)) a2 f))) one two' _ _ k2 m2 (a2.length + 1) 0 [] [] (by omega) (by simp) (by simp)
  have n1' : G4 (.p4 a2 (so (ints (EN (prg (catN a0 a1)) a2 f))) (so (ints (EN (prg (altN a0 a1)) a2 f))) 0 one two' none none) = _ := n1
  rw [k1', m1', n1', List.nil_append, List.nil_append]
  have hW : W = EN (prg (catN a0 a1)) a2 f := by
    refine sorted_eq n3 (en_sorted _ _ _) fun j => ?_
    rw [n2, en_seg gc, segn_cat ga gb]
    constructor
    · rintro ⟨_, hj, h | ⟨r, hr, hj2⟩⟩
      · exact h.elim
      · rw [List.drop_zero, en_seg ga] at hr
        rw [en_seg gb] at hj2
        exact ⟨hj, r, hr.2, hj2.2⟩
    · rintro ⟨hj, r, hr, hj2⟩
      have := inp_le hj2
      refine ⟨by omega, hj, .inr ⟨r, ?_, ?_⟩⟩
      · rw [List.drop_zero, en_seg ga]; exact ⟨by omega, hr⟩
      · rw [en_seg gb]; exact ⟨hj, hj2⟩
  have hV : V = EN (prg (altN a0 a1)) a2 f := by
    refine sorted_eq n5 (en_sorted _ _ _) fun j => ?_
    rw [n4, en_seg gd, segn_alt ga gb]
    rw [List.drop_zero, List.drop_zero]
    constructor
    · rintro ⟨_, hj, (h | h) | h⟩
      · exact h.elim
      · rw [en_seg ga] at h; exact ⟨hj, .inl h.2⟩
      · rw [en_seg gb] at h; exact ⟨hj, .inr h.2⟩
    · rintro ⟨hj, h | h⟩
      · exact ⟨by omega, hj, .inl (.inr (by rw [en_seg ga]; exact ⟨hj, h⟩))⟩
      · exact ⟨by omega, hj, .inr (by rw [en_seg gb]; exact ⟨hj, h⟩)⟩
  rw [hW, hV]
  have q1 := en_len (prg (catN a0 a1)) a2 f
  have q2 := en_len (prg (altN a0 a1)) a2 f
  rw [f15 _ (by simp [ints]; omega), sm, if_pos rfl, f15 _ (by simp [ints]; omega), sm]
end Go.Proofs.Ytjbafmnocopofaa
end
