/-
  Nfa: where a match that begins at a place may end.
-/
import Derived.Test.YtjbafmnocopofaaNfC
namespace Go.Proofs.Ytjbafmnocopofaa
open Go AW
set_option linter.unusedVariables false
set_option linter.unusedSimpArgs false
set_option maxHeartbeats 4000000
theorem div64 : ∀ n : Fin 256, IntKind.wrap .u8 (Int.tdiv (n.val : Int) 64) = ((n.val / 64 : Nat) : Int) ∧ Int.tmod (n.val : Int) 64 = ((n.val % 64 : Nat) : Int) := by decide +kernel
/-- Is a byte in a set? -/
def hasB (s : Arr 4 Int) (b : UInt8) : Bool := andI .u64 (shrI .u64 (s.l.getD (b.toNat / 64) 0) ((b.toNat % 64 : Nat) : Int)) 1 == 1
theorem f44 (s : Arr 4 Int) (b : UInt8) : F44 s (b.toNat : Int) = some (hasB s b) := by
  have hb : b.toNat < 256 := b.toNat_lt
  obtain ⟨h1, h2⟩ := div64 ⟨b.toNat, hb⟩
  simp only at h1 h2
  have hl := s.h
  obtain ⟨v, hv⟩ := get_ex s.l (i := b.toNat / 64) (by omega)
  unfold F44 hasB
  rw [h1, h2, if_pos (by omega), ixs hv, sm, if_pos (by omega)]
  simp [List.getD, hv]
/-- Where a run may stand: at a place, at an instruction. -/
inductive Cf (C : List T52) (s : Str) (fr : Nat) : Nat → Nat → Prop
  | start : Cf C s fr fr 0
  | eps {q i j : Nat} : Cf C s fr q i → j ∈ eps C s.length q i → Cf C s fr q j
  | chr {q i : Nat} {x : T52} {b : UInt8} : Cf C s fr q i → C[i]? = some x → x.Kind = 1 → s[q]? = some b → hasB x.Set b = true → Cf C s fr (q + 1) (i + 1)
def Base (C : List T52) (s : Str) (fr q j : Nat) : Prop := (q = fr ∧ j = 0) ∨ ∃ q' i x b, q = q' + 1 ∧ j = i + 1 ∧ Cf C s fr q' i ∧ C[i]? = some x ∧ x.Kind = 1 ∧ s[q']? = some b ∧ hasB x.Set b = true
theorem cf_rch {C : List T52} {s : Str} {fr q j : Nat} : Cf C s fr q j ↔ Rch C s.length q (Base C s fr q) j := by
  constructor
  · intro h
    induction h with
    | start => exact .base (.inl ⟨rfl, rfl⟩)
    | eps _ e ih => exact .step ih e
    | chr h h1 h2 h3 h4 _ => exact .base (.inr ⟨_, _, _, _, rfl, rfl, h, h1, h2, h3, h4⟩)
  · intro h
    induction h with
    | base h =>
      rcases h with ⟨rfl, rfl⟩ | ⟨q', i, x, b, rfl, rfl, h, h1, h2, h3, h4⟩
      · exact .start
      · exact .chr h h1 h2 h3 h4
    | step _ e ih => exact .eps ih e
open Classical in
/-- May a match end there? -/
noncomputable def acc (C : List T52) (s : Str) (fr q : Nat) : Bool := decide (Cf C s fr q (C.length - 1))
noncomputable def endsF (C : List T52) (s : Str) (fr q : Nat) : List Int := ((List.range' q (s.length + 1 - q)).filter (acc C s fr)).map fun (n : Nat) => (n : Int)
theorem filter_one : ∀ {l : List Nat}, l.Nodup → ∀ a : Nat, l.filter (fun i => decide (i = a)) = if a ∈ l then [a] else []
  | [], _, a => by simp
  | x :: l, h, a => by
    rw [List.nodup_cons] at h
    have ih := filter_one h.2 a
    by_cases e : x = a
    · subst e
      rw [List.filter_cons_of_pos (by simp), ih, if_neg h.1, if_pos (by simp)]
    · rw [List.filter_cons_of_neg (by simp [e]), ih]
      have e' : a ≠ x := fun h => e h.symm
      simp [e']
def hit (C : List T52) (s : Str) (q i : Nat) : Bool := match C[i]?, s[q]? with
  | some x, some b => x.Kind == 1 && hasB x.Set b
  | _, _ => false
theorem hit_ne {C : List T52} {s : Str} {q i : Nat} {x : T52} (hx : C[i]? = some x) (h : x.Kind ≠ 1) : ¬ hit C s q i = true := by
  unfold hit
  have : (x.Kind == 1) = false := by simpa using h
  cases e : s[q]? <;> simp [hx, this]
theorem hit_no {C : List T52} {s : Str} {q i : Nat} (h : s.length ≤ q) : ¬ hit C s q i = true := by
  unfold hit
  have : s[q]? = none := by simp; omega
  cases e : C[i]? <;> simp [this]
theorem hit_is {C : List T52} {s : Str} {q i : Nat} {x : T52} {b : UInt8} (hx : C[i]? = some x) (h : x.Kind = 1) (hb : s[q]? = some b) : hit C s q i = hasB x.Set b := by
  simp [hit, hx, hb, h]
abbrev Zz := (Sl Int) × Int × (Sl Int) × Nat
def yst (N : Nat) (C : List T52) (s : Str) (q i : Nat) (z : Zz) : Zz :=
  (if i + 1 = N then sapp z.1 [(q : Int)] else z.1, z.2.1, if hit C s q i = true then sapp z.2.2.1 [((i + 1 : Nat) : Int)] else z.2.2.1, z.2.2.2)
structure Pz (q base k : Nat) (z : Zz) : Prop where
  f : z.2.2.2 = 0
  p : z.2.1 = (q : Int)
  o : (ls z.1).length ≤ base + k
  n : (ls z.2.2.1).length ≤ k
theorem b33 {p : T34} (hr : rp p = true) {s : Str} (hs : s.length ≤ 1000000000) {q base k : Nat} (hb : base ≤ 1000000000) (hk : k < (ls p.Code).length) {z : Zz} (hP : Pz q base k z) {i : Nat} (hi : i < (ls p.Code).length) (t6 now : Sl Int) (t24 : T34) (a2 : Sl Int) (a3 : Int) (a4 : Str) :
    B33_1 p s t6 now t24 a2 a3 a4 (i : Int) z = some (true, yst (ls p.Code).length (ls p.Code) s q i z) ∧ Pz q base (k + 1) (yst (ls p.Code).length (ls p.Code) s q i z) := by
  have hlen := rp_len hr
  obtain ⟨z1, z2, z3, z4⟩ := z
  obtain ⟨h1, h2, h3, h4⟩ := hP
  simp only at h1 h2 h3 h4
  subst h1; subst h2
  obtain ⟨x, hx⟩ := get_ex (ls p.Code) hi
  obtain ⟨hf, h12⟩ := rp_at hr hx
  have pz : ∀ (o n : Sl Int), (ls o).length ≤ (ls z1).length + 1 → (ls n).length ≤ (ls z3).length + 1 → Pz q base (k + 1) (o, (q : Int), n, 0) := fun o n h h' => ⟨rfl, rfl, by show (ls o).length ≤ _; omega, by show (ls n).length ≤ _; omega⟩
  unfold B33_1 yst
  simp only
  rw [if_pos trivial, ixs hx, sm]
  by_cases e : x.Kind = 12
  · have hN := h12.1 e
    have hh := hit_ne (s := s) (q := q) hx (show x.Kind ≠ 1 by omega)
    rw [eti e, if_pos (by simp [ls]; unfold ls at h3; omega), if_pos hN, if_neg hh]
    exact ⟨rfl, pz _ _ (by rw [ls_sapp]; simp) (by omega)⟩
  · have hN : i + 1 ≠ (ls p.Code).length := fun h => e (h12.2 h)
    rw [efi e, if_neg hN]
    by_cases e1 : x.Kind = 1
    · rw [eti e1]
      by_cases hq : q < s.length
      · obtain ⟨b, hb'⟩ := get_ex s hq
        rw [dti (by omega), ixs hb', sm, f44, sm, hit_is hx e1 hb']
        by_cases hh : hasB x.Set b = true
        · rw [if_pos hh, if_pos hh, if_pos (by simp [ls]; unfold ls at h4; omega), wn1 i (by omega)]
          exact ⟨rfl, pz _ _ (by omega) (by rw [ls_sapp]; simp)⟩
        · rw [if_neg hh, if_neg hh]
          exact ⟨rfl, pz _ _ (by omega) (by omega)⟩
      · rw [dfi (by omega), if_neg (hit_no (by omega))]
        exact ⟨rfl, pz _ _ (by omega) (by omega)⟩
    · rw [efi e1, if_neg (hit_ne hx e1)]
      exact ⟨rfl, pz _ _ (by omega) (by omega)⟩
theorem yfold (N : Nat) (C : List T52) (s : Str) (q : Nat) : ∀ (l : List Nat) (O : List Int) (pl : Int) (H : List Nat) (f : Nat),
    l.foldl (fun z i => yst N C s q i z) (so O, pl, so (ints H), f) = (so (O ++ (l.filter fun i => decide (i + 1 = N)).map fun _ => (q : Int)), pl, so (ints (H ++ (l.filter (hit C s q)).map (· + 1))), f)
  | [], O, pl, H, f => by simp
  | i :: l, O, pl, H, f => by
    have e : yst N C s q i (so O, pl, so (ints H), f) = (so (O ++ ([i].filter fun i => decide (i + 1 = N)).map fun _ => (q : Int)), pl, so (ints (H ++ ([i].filter (hit C s q)).map (· + 1))), f) := by
      unfold yst
      simp only
      by_cases h1 : i + 1 = N
      · by_cases h2 : hit C s q i = true
        · rw [if_pos h1, if_pos h2, sapp_so, sapp_so]; simp [h1, h2, ints]
        · rw [if_pos h1, if_neg h2, sapp_so]; simp [h1, h2, ints]
      · by_cases h2 : hit C s q i = true
        · rw [if_neg h1, if_pos h2, sapp_so]; simp [h1, h2, ints]
        · rw [if_neg h1, if_neg h2]; simp [h1, h2, ints]
    rw [List.foldl_cons, e, yfold N C s q l, List.append_assoc, List.append_assoc, ← List.map_append, ← List.map_append, ← List.filter_append, ← List.filter_append, List.singleton_append]
theorem no_cf {C : List T52} {s : Str} {fr q : Nat} (hq : fr ≤ q) (h : ∀ j, ¬ Base C s fr q j) (hf : fr < q) : ∀ q', q ≤ q' → ∀ j, ¬ Cf C s fr q' j := by
  have key : ∀ q' j, Cf C s fr q' j → q ≤ q' → False := by
    intro q' j hc
    induction hc with
    | start => intro h; omega
    | eps _ _ ih => exact ih
    | @chr q0 i0 x0 b0 hc h1 h2 h3 h4 ih =>
      intro hle
      by_cases e : q = q0 + 1
      · exact h (i0 + 1) (.inr ⟨q0, i0, x0, b0, e, rfl, hc, h1, h2, h3, h4⟩)
      · exact ih (by omega)
  exact fun q' hle j hc => key q' j hc hle
theorem endsF_nil {C : List T52} {s : Str} {fr q : Nat} (h : ∀ q', q ≤ q' → ∀ j, ¬ Cf C s fr q' j) : endsF C s fr q = [] := by
  unfold endsF
  rw [List.filter_eq_nil_iff.2, List.map_nil]
  intro a ha
  rw [List.mem_range'_1] at ha
  simp [acc, h a ha.1]
theorem g33 {p : T34} (hr : rp p = true) {s : Str} (hs : s.length ≤ 100000000) {fr : Nat} (hfr : fr ≤ s.length) (t6 : Sl Int) : ∀ (m q : Nat) (A : List Nat) (out : List Int), m + q = s.length + 1 → fr ≤ q → (∀ j, j ∈ A ↔ Base (ls p.Code) s fr q j) → A.length ≤ 100000 → out.length ≤ q →
    G33 (.p1 p s t6 (so (ints A)) (so out) (q : Int)) = some (so (out ++ endsF (ls p.Code) s fr q)) := by
  have hlen := rp_len hr
  have stop : ∀ (q : Nat) (out : List Int), fr ≤ q → (∀ j, ¬ Base (ls p.Code) s fr q j) → fr < q → G33 (.p1 p s t6 (so (ints [])) (so out) (q : Int)) = some (so (out ++ endsF (ls p.Code) s fr q)) := by
    intro q out h1 h2 h3
    rw [endsF_nil (no_cf h1 h2 h3), G33.eq_1, dfi (by simp [ls_so, ints]), List.append_nil]
  intro m
  induction m with
  | zero =>
    intro q A out hm hq hA hAl ho
    have hB : ∀ j, ¬ Base (ls p.Code) s fr q j := by
      rintro j (⟨rfl, _⟩ | ⟨q', i, x, b, rfl, _, _, _, _, hb, _⟩)
      · omega
      · have := ge_lt hb; omega
    have : A = [] := List.eq_nil_iff_forall_not_mem.2 fun j hj => hB j ((hA j).1 hj)
    subst this
    exact stop q out hq hB (by omega)
  | succ m ih =>
    intro q A out hm hq hA hAl ho
    by_cases hn : A = []
    · subst hn
      have hB : ∀ j, ¬ Base (ls p.Code) s fr q j := fun j h => by simpa using (hA j).2 h
      have : fr ≠ q := fun e => hB 0 (.inl ⟨e.symm, rfl⟩)
      exact stop q out hq hB (by omega)
    · have hApos : 0 < A.length := List.length_pos_iff.2 hn
      have hBlt : ∀ j, Base (ls p.Code) s fr q j → j < (ls p.Code).length := by
        rintro j (⟨_, rfl⟩ | ⟨q', i, x, b, rfl, rfl, _, hx, hk, hb, _⟩)
        · omega
        · have := ge_lt hx
          have : i + 1 ≠ (ls p.Code).length := fun e => by have := (rp_at hr hx).2.2 e; omega
          omega
      rw [G33.eq_1, dti (by rw [ls_so]; simp [ints]; omega)]
      unfold F43
      rw [sm, G33.eq_2]
      simp only
      obtain ⟨Lf, l1, l2, l3, l4⟩ := f57 hr (Y := B33_1 p s t6 (so (ints A)) p (so (ints A)) (q : Int) s) (y := yst (ls p.Code).length (ls p.Code) s q) (P := Pz q out.length) (fun k i z hk hi hP => b33 hr (by omega) (by omega) hk hP hi _ _ _ _ _ _) q s A (fun a ha => hBlt a ((hA a).1 ha)) (by omega) (so out, (q : Int), none, 0) ⟨rfl, rfl, by simp [ls_so], by simp [ls]⟩
      rw [l3, sm]
      have yf := yfold (ls p.Code).length (ls p.Code) s q Lf out (q : Int) [] 0
      have yf' : Lf.foldl (fun z i => yst (ls p.Code).length (ls p.Code) s q i z) (so out, (q : Int), none, 0) = _ := yf
      rw [yf', if_pos rfl]
      simp only [List.nil_append]
      rw [wn1 q (by omega)]
      have hcf : ∀ j, j ∈ Lf ↔ Cf (ls p.Code) s fr q j := fun j => by
        rw [l2, cf_rch]
        have : (fun j => j ∈ A) = Base (ls p.Code) s fr q := by funext j; exact propext (hA j)
        rw [this]
      have hLl := nodup_len _ Lf l1 (fun j hj => by
        have := (l2 j).1 hj
        cases this with
        | base h => exact hBlt j ((hA j).1 h)
        | step _ e => exact eps_lt hr e)
      have hfo : (Lf.filter fun i => decide (i + 1 = (ls p.Code).length)) = if (ls p.Code).length - 1 ∈ Lf then [(ls p.Code).length - 1] else [] := by
        rw [← filter_one l1]
        congr 1
        funext i
        congr 1
        apply propext
        omega
      have hend : endsF (ls p.Code) s fr q = ((Lf.filter fun i => decide (i + 1 = (ls p.Code).length)).map fun _ => (q : Int)) ++ endsF (ls p.Code) s fr (q + 1) := by
        unfold endsF
        rw [hfo, show s.length + 1 - q = (s.length + 1 - (q + 1)) + 1 by omega, List.range'_succ]
        by_cases h : (ls p.Code).length - 1 ∈ Lf
        · rw [if_pos h, List.filter_cons_of_pos (by simp [acc, ← hcf, h])]; rfl
        · rw [if_neg h, List.filter_cons_of_neg (by simp [acc, ← hcf, h])]; rfl
      rw [ih (q + 1) _ _ (by omega) (by omega) ?_ ?_ ?_, hend, List.append_assoc]
      · intro j
        rw [List.mem_map]
        constructor
        · rintro ⟨i, hi, rfl⟩
          rw [List.mem_filter, hcf] at hi
          obtain ⟨hc, hh⟩ := hi
          unfold hit at hh
          split at hh
          · rename_i x b hx hb
            simp only [Bool.and_eq_true, beq_iff_eq] at hh
            exact .inr ⟨q, i, x, b, rfl, rfl, hc, hx, hh.1, hb, hh.2⟩
          · simp at hh
        · rintro (⟨h, _⟩ | ⟨q', i, x, b, h, rfl, hc, hx, hk, hb, hh⟩)
          · omega
          · obtain rfl : q = q' := by omega
            refine ⟨i, ?_, rfl⟩
            rw [List.mem_filter, hcf]
            exact ⟨hc, by simp [hit, hx, hb, hk, hh]⟩
      · have := List.length_filter_le (hit (ls p.Code) s q) Lf
        simp; omega
      · rw [hfo]; split <;> simp <;> omega
theorem f33 {p : T34} (hr : rp p = true) {s : Str} (hs : s.length ≤ 100000000) {fr : Nat} (hfr : fr ≤ s.length) : F33 p s (fr : Int) = some (so (endsF (ls p.Code) s fr fr)) := by
  unfold F33
  have := g33 hr hs hfr none (s.length + 1 - fr) fr [0] [] (by omega) (by omega) (fun j => ?_) (by simp) (by simp)
  · rw [List.nil_append] at this; exact this
  · constructor
    · intro h; simp at h; exact .inl ⟨rfl, h⟩
    · rintro (⟨_, rfl⟩ | ⟨q', i, x, b, h, rfl, hc, _⟩)
      · simp
      · exfalso
        have : ∀ q j, Cf (ls p.Code) s fr q j → fr ≤ q := by
          intro q j h
          induction h with
          | start => omega
          | eps _ _ ih => exact ih
          | chr _ _ _ _ _ ih => omega
        have := this _ _ hc
        omega
end Go.Proofs.Ytjbafmnocopofaa
