/-
  Nfa: which instructions a run comes to without a further byte.
-/
import Derived.Test.YtjbafmnocopofaaNfA
namespace Go.Proofs.Ytjbafmnocopofaa
open Go AW
set_option linter.unusedVariables false
set_option linter.unusedSimpArgs false
set_option maxHeartbeats 4000000
theorem nat_of {z : Int} (h : 0 ≤ z) : ∃ n : Nat, z = n := ⟨z.toNat, by omega⟩
theorem nodup_len : ∀ (N : Nat) (L : List Nat), L.Nodup → (∀ x ∈ L, x < N) → L.length ≤ N
  | 0, L, _, h => by
    cases L with
    | nil => simp
    | cons a l => exact absurd (h a (by simp)) (by omega)
  | N + 1, L, hn, h => by
    by_cases hm : N ∈ L
    · have h1 := nodup_len N (L.erase N) (hn.erase N) (fun x hx => by
        have := (List.Nodup.mem_erase_iff hn).1 hx
        have := h x this.2
        omega)
      have := List.length_erase_of_mem hm
      omega
    · have := nodup_len N L hn (fun x hx => by
        have := h x hx
        have : x ≠ N := fun e => hm (e ▸ hx)
        omega)
      omega
/-- An instruction added to those that are known. -/
def addN (L : List Nat) (i : Nat) : List Nat := if i ∈ L then L else L ++ [i]
theorem mem_addN (L : List Nat) (i j : Nat) : j ∈ addN L i ↔ j ∈ L ∨ j = i := by
  unfold addN
  split
  · constructor
    · exact .inl
    · rintro (h | rfl) <;> assumption
  · simp
theorem addN_pre (L : List Nat) (i : Nat) : L <+: addN L i := by
  unfold addN
  split
  · exact List.prefix_refl _
  · exact List.prefix_append _ _
theorem addsN_pre (l : List Nat) : ∀ L : List Nat, L <+: l.foldl addN L := by
  induction l with
  | nil => exact fun L => List.prefix_refl _
  | cons a l ih => exact fun L => (addN_pre L a).trans (ih _)
theorem mem_addsN (l : List Nat) : ∀ (L : List Nat) (j : Nat), j ∈ l.foldl addN L ↔ j ∈ L ∨ j ∈ l := by
  induction l with
  | nil => simp
  | cons a l ih => intro L j; simp only [List.foldl_cons, ih, mem_addN, List.mem_cons, or_assoc]
def ints (L : List Nat) : List Int := L.map fun (n : Nat) => (n : Int)
/-- Known instructions and their marks. -/
structure Mk (N : Nat) (s : T92) (L : List Nat) : Prop where
  len : ∃ b, s.in_ = some b ∧ b.length = N ∧ ∀ j, j < N → b[j]? = some (decide (j ∈ L))
  lst : s.list = so (ints L)
  nd : L.Nodup
  lt : ∀ j ∈ L, j < N
theorem f58 {N : Nat} {s : T92} {L : List Nat} (hN : N ≤ 20000) (h : Mk N s L) (i : Nat) (hi : i < N) : ∃ b s', F58 s (i : Int) = some (b, s') ∧ Mk N s' (addN L i) := by
  obtain ⟨⟨b, e, hl, hb⟩, hs, hn, hlt⟩ := h
  have hix : ix (ls s.in_) (i : Int) = some (decide (i ∈ L)) := by rw [e]; exact ixs (hb i hi)
  unfold F58 addN
  rw [hix, sm]
  by_cases hm : i ∈ L
  · rw [dti hm, if_pos hm]
    exact ⟨_, _, rfl, ⟨b, e, hl, hb⟩, hs, hn, hlt⟩
  · have hL := nodup_len N L hn hlt
    rw [dfi hm, sm, if_neg hm, hs, ls_so, if_pos (by simp [ints, ls]; omega)]
    refine ⟨_, _, rfl, ⟨b.set i true, by simp [e, vset], by simp [hl], fun j hj => ?_⟩, ?_, ?_, ?_⟩
    · rw [List.getElem?_set]
      by_cases hij : i = j
      · subst hij; simp [hl, hj]
      · have h2 : decide (j ∈ L) = decide (j ∈ L ++ [i]) := by
          congr 1; apply propext; simp; intro h; exact absurd h.symm hij
        rw [if_neg hij, hb j hj, h2]
    · show sapp (so (ints L)) _ = _
      rw [sapp_so]
      simp [ints, ls]
    · rw [List.nodup_append]
      exact ⟨hn, by simp, by simp; rintro a ha rfl; exact hm ha⟩
    · intro j hj
      rcases List.mem_append.1 hj with h | h
      · exact hlt j h
      · simp at h; omega
/-- To which instructions one goes on without a byte. -/
def eps (C : List T52) (len q i : Nat) : List Nat :=
  match C[i]? with
  | none => []
  | some x =>
    if x.Kind = 1 then [] else if x.Kind = 12 then [] else if x.Kind = 2 then [i + 1, x.To.toNat] else if x.Kind = 3 then [x.To.toNat]
    else if x.Kind = 10 then (if q = 0 then [i + 1] else []) else if x.Kind = 11 then (if q = len then [i + 1] else []) else [i + 1]
theorem fit_to {p : T34} {x : T52} (h : fit p x = true) (hk : x.Kind = 2 ∨ x.Kind = 3) : 0 ≤ x.To ∧ x.To < ((ls p.Code).length : Int) := by
  unfold fit at h
  have h1 : x.Kind ≠ 1 := by omega
  simp only [h1, if_false, hk, if_true, Bool.and_eq_true, decide_eq_true_eq] at h
  exact h.2
theorem eps_lt {p : T34} (hr : rp p = true) {len q i j : Nat} (h : j ∈ eps (ls p.Code) len q i) : j < (ls p.Code).length := by
  unfold eps at h
  split at h
  · simp at h
  · rename_i x hx
    obtain ⟨hf, hl⟩ := rp_at hr hx
    have hi := ge_lt hx
    have hne : x.Kind ≠ 12 → i + 1 < (ls p.Code).length := fun h => by
      have : i + 1 ≠ (ls p.Code).length := fun e => h (hl.2 e)
      omega
    split at h
    · simp at h
    split at h
    · simp at h
    rename_i h12
    have := hne h12
    split at h
    · rename_i h2
      have := fit_to hf (.inl h2)
      simp at h
      omega
    split at h
    · rename_i h3
      have := fit_to hf (.inr h3)
      simp at h
      omega
    split at h
    · split at h <;> simp at h; omega
    split at h
    · split at h <;> simp at h; omega
    · simp at h; omega
variable {σ : Type}
theorem g57_step {p : T34} (hr : rp p = true) {Y : Int → σ → Option (Bool × σ)} {q : Nat} {text : Str} {s : T92} {L : List Nat} (hm : Mk (ls p.Code).length s L) {k i : Nat} (hk : L[k]? = some i) {z z' : σ} (hY : Y (i : Int) z = some (true, z')) :
    ∃ s', G57 Y (.p2 p (q : Int) text (k : Int) z s) = G57 Y (.p2 p (q : Int) text ((k + 1 : Nat) : Int) z' s') ∧ Mk (ls p.Code).length s' ((eps (ls p.Code) text.length q i).foldl addN L) := by
  have hlen := rp_len hr
  have hL := nodup_len _ L hm.nd hm.lt
  have hkl := ge_lt hk
  have hi := hm.lt i (List.mem_of_getElem? hk)
  obtain ⟨x, hx⟩ := get_ex (ls p.Code) hi
  have hix : ix (ls s.list) (k : Int) = some (i : Int) := by rw [hm.lst, ls_so]; exact ixs (by simp [ints, hk])
  have e1 : ∀ s' : T92, G57 Y (.p2 p (q : Int) text (IntKind.wrap .i64 ((k : Int) + 1)) z' s') = G57 Y (.p2 p (q : Int) text ((k + 1 : Nat) : Int) z' s') := fun s' => by rw [wn1 k (by omega)]
  have e2 : IntKind.wrap .i64 ((i : Int) + 1) = ((i + 1 : Nat) : Int) := wn1 i (by omega)
  have he := fun j => @eps_lt p hr text.length q i j
  rw [G57.eq_2, dti (by rw [hm.lst, ls_so]; simp [ints]; omega), hix, sm, hY, sm, if_neg (by simp), ixs hx, sm]
  simp only [e1, e2]
  unfold eps at he ⊢
  simp only [hx] at he ⊢
  by_cases h1 : x.Kind = 1
  · rw [eti h1, if_pos h1]; exact ⟨s, rfl, hm⟩
  rw [efi h1, if_neg h1]
  rw [if_neg h1] at he
  by_cases h12 : x.Kind = 12
  · rw [eti h12, if_pos h12]; exact ⟨s, rfl, hm⟩
  rw [efi h12, if_neg h12]
  rw [if_neg h12] at he
  by_cases h2 : x.Kind = 2
  · rw [eti h2, if_pos h2]
    rw [if_pos h2] at he
    obtain ⟨b1, s1, f1, m1⟩ := f58 (by omega) hm (i + 1) (he _ (by simp))
    obtain ⟨t, ht⟩ := nat_of (fit_to (rp_at hr hx).1 (.inl h2)).1
    obtain ⟨b2, s2, f2, m2⟩ := f58 (by omega) m1 t (he _ (by simp [ht]))
    rw [f1, sm, ht, f2, sm]
    exact ⟨s2, rfl, by simpa [ht] using m2⟩
  rw [efi h2, if_neg h2]
  rw [if_neg h2] at he
  by_cases h3 : x.Kind = 3
  · rw [eti h3, if_pos h3]
    rw [if_pos h3] at he
    obtain ⟨t, ht⟩ := nat_of (fit_to (rp_at hr hx).1 (.inr h3)).1
    obtain ⟨b2, s2, f2, m2⟩ := f58 (by omega) hm t (he _ (by simp [ht]))
    rw [ht, f2, sm]
    exact ⟨s2, rfl, by simpa [ht] using m2⟩
  rw [efi h3, if_neg h3]
  rw [if_neg h3] at he
  by_cases h10 : x.Kind = 10
  · rw [eti h10, if_pos h10]
    rw [if_pos h10] at he
    by_cases hq : q = 0
    · rw [if_pos hq] at he ⊢
      obtain ⟨b1, s1, f1, m1⟩ := f58 (by omega) hm (i + 1) (he _ (by simp))
      rw [eti (by omega), f1, sm]
      exact ⟨s1, rfl, m1⟩
    · rw [if_neg hq, efi (by omega)]; exact ⟨s, rfl, hm⟩
  rw [efi h10, if_neg h10]
  rw [if_neg h10] at he
  by_cases h11 : x.Kind = 11
  · rw [eti h11, if_pos h11]
    rw [if_pos h11] at he
    by_cases hq : q = text.length
    · rw [if_pos hq] at he ⊢
      obtain ⟨b1, s1, f1, m1⟩ := f58 (by omega) hm (i + 1) (he _ (by simp))
      rw [eti (by omega), f1, sm]
      exact ⟨s1, rfl, m1⟩
    · rw [if_neg hq, efi (by omega)]; exact ⟨s, rfl, hm⟩
  rw [efi h11, if_neg h11]
  rw [if_neg h11] at he
  obtain ⟨b1, s1, f1, m1⟩ := f58 (by omega) hm (i + 1) (he _ (by simp))
  rw [f1, sm]
  exact ⟨s1, rfl, m1⟩
/-- What is reached from some instructions. -/
inductive Rch (C : List T52) (len q : Nat) (B : Nat → Prop) : Nat → Prop
  | base {j : Nat} : B j → Rch C len q B j
  | step {i j : Nat} : Rch C len q B i → j ∈ eps C len q i → Rch C len q B j
theorem g57_2 {p : T34} (hr : rp p = true) {Y : Int → σ → Option (Bool × σ)} {y : Nat → σ → σ} {P : Nat → σ → Prop} (hY : ∀ k i z, k < (ls p.Code).length → i < (ls p.Code).length → P k z → Y (i : Int) z = some (true, y i z) ∧ P (k + 1) (y i z)) {q : Nat} {text : Str} {B : Nat → Prop} :
    ∀ (m k : Nat) (L : List Nat) (s : T92) (z : σ), m + k = (ls p.Code).length → Mk (ls p.Code).length s L → k ≤ L.length → P k z → (∀ j ∈ L, Rch (ls p.Code) text.length q B j) → (∀ j, B j → j ∈ L) → (∀ t i, t < k → L[t]? = some i → ∀ j ∈ eps (ls p.Code) text.length q i, j ∈ L) →
    ∃ Lf, L <+: Lf ∧ Lf.Nodup ∧ (∀ j, j ∈ Lf ↔ Rch (ls p.Code) text.length q B j) ∧ G57 Y (.p2 p (q : Int) text (k : Int) z s) = some ((Lf.drop k).foldl (fun z i => y i z) z) ∧ P Lf.length ((Lf.drop k).foldl (fun z i => y i z) z) := by
  have hlen := rp_len hr
  have done : ∀ (k : Nat) (L : List Nat) (s : T92) (z : σ), Mk (ls p.Code).length s L → k = L.length → P k z → (∀ j ∈ L, Rch (ls p.Code) text.length q B j) → (∀ j, B j → j ∈ L) → (∀ t i, t < k → L[t]? = some i → ∀ j ∈ eps (ls p.Code) text.length q i, j ∈ L) →
    ∃ Lf, L <+: Lf ∧ Lf.Nodup ∧ (∀ j, j ∈ Lf ↔ Rch (ls p.Code) text.length q B j) ∧ G57 Y (.p2 p (q : Int) text (k : Int) z s) = some ((Lf.drop k).foldl (fun z i => y i z) z) ∧ P Lf.length ((Lf.drop k).foldl (fun z i => y i z) z) := by
    intro k L s z hm hk hP h1 h2 h3
    refine ⟨L, List.prefix_refl _, hm.nd, fun j => ⟨h1 j, fun h => ?_⟩, ?_, ?_⟩
    · induction h with
      | base h => exact h2 _ h
      | step h e ih =>
        obtain ⟨t, ht⟩ := List.getElem?_of_mem ih
        exact h3 t _ (by have := ge_lt ht; omega) ht _ e
    · rw [G57.eq_2, dfi (by rw [hm.lst, ls_so]; simp [ints]; omega), List.drop_of_length_le (by omega)]; rfl
    · rw [List.drop_of_length_le (by omega)]; exact hk ▸ hP
  intro m
  induction m with
  | zero =>
    intro k L s z hmk hm hk hP h1 h2 h3
    have := nodup_len _ L hm.nd hm.lt
    exact done k L s z hm (by omega) hP h1 h2 h3
  | succ m ih =>
    intro k L s z hmk hm hk hP h1 h2 h3
    by_cases hkl : k = L.length
    · exact done k L s z hm hkl hP h1 h2 h3
    · obtain ⟨i, hi⟩ := get_ex L (i := k) (by omega)
      have hil := hm.lt i (List.mem_of_getElem? hi)
      have hLl := nodup_len _ L hm.nd hm.lt
      obtain ⟨y1, y2⟩ := hY k i z (by omega) hil hP
      obtain ⟨s', e, hm'⟩ := g57_step hr (q := q) (text := text) hm hi y1
      have hpre := addsN_pre (eps (ls p.Code) text.length q i) L
      have hll := hpre.length_le
      obtain ⟨Lf, l1, l2, l3, l4, l5⟩ := ih (k + 1) _ s' _ (by omega) hm' (by omega) y2
        (fun j hj => by
          rcases (mem_addsN _ _ _).1 hj with h | h
          · exact h1 j h
          · exact .step (h1 i (List.mem_of_getElem? hi)) h)
        (fun j hj => (mem_addsN _ _ _).2 (.inl (h2 j hj)))
        (fun t i' ht hti j hj => by
          rw [mem_addsN]
          have hL : L[t]? = some i' := by
            obtain ⟨r, hr⟩ := hpre
            rw [← hr, List.getElem?_append_left (by omega)] at hti
            exact hti
          by_cases htk : t = k
          · subst htk
            rw [hi] at hL; cases hL
            exact .inr hj
          · exact .inl (h3 t i' (by omega) hL j hj))
      have hf : Lf.drop k = i :: Lf.drop (k + 1) := by
        apply drop_cons
        obtain ⟨r, hr⟩ := hpre.trans l1
        rw [← hr, List.getElem?_append_left (by omega)]
        exact hi
      refine ⟨Lf, hpre.trans l1, l2, l3, ?_, ?_⟩
      · rw [e, l4, hf]; rfl
      · rw [hf]; exact l5
theorem g57_1 {p : T34} (hr : rp p = true) {Y : Int → σ → Option (Bool × σ)} {q : Nat} {text : Str} (A : List Nat) (hA : ∀ a ∈ A, a < (ls p.Code).length) (hAl : A.length ≤ 100000000) (z : σ) :
    ∀ (m t : Nat) (L : List Nat) (s : T92), m + t = A.length → Mk (ls p.Code).length s L → (∀ j, j ∈ L ↔ j ∈ A.take t) →
    ∃ s' L', Mk (ls p.Code).length s' L' ∧ (∀ j, j ∈ L' ↔ j ∈ A) ∧ G57 Y (.p1 p (q : Int) text (so (ints A)) (A.length : Int) (t : Int) z s) = G57 Y (.p2 p (q : Int) text 0 z s')
  | 0, t, L, s, h, hm, hj => by
    rw [G57.eq_1, dfi (by omega)]
    exact ⟨s, L, hm, fun j => by rw [hj, List.take_of_length_le (by omega)], rfl⟩
  | m + 1, t, L, s, h, hm, hj => by
    have hlen := rp_len hr
    obtain ⟨a, ha⟩ := get_ex A (i := t) (by omega)
    obtain ⟨b, s1, f1, m1⟩ := f58 (by omega) hm a (hA a (List.mem_of_getElem? ha))
    rw [G57.eq_1, dti (by omega), ls_so, ixs (c := (a : Int)) (by simp [ints, ha]), sm, f1, sm, wn1 t (by omega)]
    exact g57_1 hr A hA hAl z m (t + 1) _ s1 (by omega) m1 fun j => by rw [mem_addN, hj, take_snoc ha]; simp
theorem f57 {p : T34} (hr : rp p = true) {Y : Int → σ → Option (Bool × σ)} {y : Nat → σ → σ} {P : Nat → σ → Prop} (hY : ∀ k i z, k < (ls p.Code).length → i < (ls p.Code).length → P k z → Y (i : Int) z = some (true, y i z) ∧ P (k + 1) (y i z)) (q : Nat) (text : Str) (A : List Nat) (hA : ∀ a ∈ A, a < (ls p.Code).length) (hAl : A.length ≤ 100000000) (z : σ) (hP : P 0 z) :
    ∃ Lf : List Nat, Lf.Nodup ∧ (∀ j, j ∈ Lf ↔ Rch (ls p.Code) text.length q (· ∈ A) j) ∧ F57 Y p (so (ints A)) (q : Int) text z = some (Lf.foldl (fun z i => y i z) z) ∧ P Lf.length (Lf.foldl (fun z i => y i z) z) := by
  have hlen := rp_len hr
  unfold F57
  rw [if_pos (by omega)]
  have hm : Mk (ls p.Code).length { in_ := some (List.replicate (Int.toNat ((ls p.Code).length : Int)) false), list := none } [] := by
    refine ⟨⟨_, rfl, by simp, fun j hj => by simp [List.getElem?_replicate, hj]⟩, rfl, by simp, by simp⟩
  obtain ⟨s', L', m', h1, h2⟩ := g57_1 hr (Y := Y) (q := q) (text := text) A hA hAl z A.length 0 [] _ (by omega) hm (by simp)
  have h2' : G57 Y (.p1 p (q : Int) text (so (ints A)) ((ls (so (ints A))).length : Int) 0 z { in_ := some (List.replicate (Int.toNat ((ls p.Code).length : Int)) false), list := none }) = G57 Y (.p2 p (q : Int) text 0 z s') := by
    rw [ls_so, show (ints A).length = A.length by simp [ints]]; exact h2
  rw [h2']
  obtain ⟨Lf, l1, l2, l3, l4, l5⟩ := g57_2 hr hY (q := q) (text := text) (B := (· ∈ A)) (ls p.Code).length 0 L' s' z (by omega) m' (by omega) hP (fun j hj => .base ((h1 j).1 hj)) (fun j hj => (h1 j).2 hj) (fun t i ht => by omega)
  exact ⟨Lf, l2, l3, by simpa using l4, by simpa using l5⟩
end Go.Proofs.Ytjbafmnocopofaa
