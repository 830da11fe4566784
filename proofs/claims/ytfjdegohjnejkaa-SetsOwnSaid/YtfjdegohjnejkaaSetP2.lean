/-
  Sets of bytes: the loops.
-/
import Derived.Test.YtfjdegohjnejkaaSetP1
namespace Go.Proofs.Ytfjdegohjnejkaa
open Go AW
set_option linter.unusedVariables false
set_option linter.unusedSimpArgs false

theorem bs {α β : Type} (a : α) (f : α → Option β) : (some a >>= f) = f a := rfl
theorem dt {p : Prop} [Decidable p] {α : Type} {x y : Option α} (h : p) : (if decide p = true then x else y) = x := by simp [h]
theorem df {p : Prop} [Decidable p] {α : Type} {x y : Option α} (h : ¬ p) : (if decide p = true then x else y) = y := by simp [h]

/-- A plain set's bytes below a number. -/
def bl (f : Nat → Bool) (m : Nat) : List Nat := (List.range m).filter f
def zl (l : List Nat) : List Int := l.map fun (n : Nat) => (n : Int)
theorem bl_succ (f : Nat → Bool) (m : Nat) : bl f (m + 1) = bl f m ++ (if f m = true then [m] else []) := by
  simp only [bl, List.range_succ, List.filter_append, List.filter_cons, List.filter_nil]
theorem bl_len (f : Nat → Bool) (m : Nat) : (bl f m).length ≤ m := by
  have := List.length_filter_le f (List.range m)
  simpa [bl] using this
theorem bl_mem {f : Nat → Bool} {m n : Nat} : n ∈ bl f m ↔ n < m ∧ f n = true := by simp [bl]
theorem zl_app (a b : List Nat) : zl (a ++ b) = zl a ++ zl b := by simp [zl]
theorem zl_len (a : List Nat) : (zl a).length = a.length := by simp [zl]

theorem f15_loop (f : Nat → Bool) : ∀ (k m : Nat) (o : Sl Int), m + k = 256 → ls o = zl (bl f m) → ∃ o', G15 (.p1 (m : Int) (sa f) o) = some o' ∧ ls o' = zl (bl f 256)
  | 0, m, o, hm, ho => by
    have hm' : m = 256 := by omega
    subst hm'
    rw [G15.eq_1, df (by omega)]
    exact ⟨o, rfl, ho⟩
  | k + 1, m, o, hm, ho => by
    have hl : (ls o).length ≤ m := by rw [ho, zl_len]; exact bl_len f m
    rw [G15.eq_1, dt (by omega), wrap8 m (by omega), has_eq f m (by omega), bs, wrapi _ (by omega) (by omega)]
    cases hf : f m with
    | true =>
      rw [if_pos rfl, if_pos (by simp [ls] at hl ⊢; omega)]
      refine f15_loop f k (m + 1) _ (by omega) ?_
      rw [ls_sapp, ho, bl_succ, hf, if_pos rfl, zl_app]
      rfl
    | false =>
      rw [if_neg (by simp)]
      refine f15_loop f k (m + 1) _ (by omega) ?_
      rw [ho, bl_succ, hf, if_neg (by simp), List.append_nil]
theorem f15_eq (f : Nat → Bool) : ∃ o, F15 (sa f) = some o ∧ ls o = zl (bl f 256) := by
  unfold F15
  exact f15_loop f 256 0 none (by omega) rfl

theorem f16_loop (f : Nat → Bool) : ∀ (k m : Nat) (o : Sl Int), m + k = 256 → ls o = zl (bl f m) → ∃ o', G16 (.p1 (m : Int) (sa f) o) = some o' ∧ ls o' = zl (bl f 256)
  | 0, m, o, hm, ho => by
    have hm' : m = 256 := by omega
    subst hm'
    rw [G16.eq_1, df (by omega)]
    exact ⟨o, rfl, ho⟩
  | k + 1, m, o, hm, ho => by
    have hl : (ls o).length ≤ m := by rw [ho, zl_len]; exact bl_len f m
    rw [G16.eq_1, dt (by omega), wrap8 m (by omega), has_eq' f m (by omega), bs, wrapi _ (by omega) (by omega)]
    cases hf : f m with
    | true =>
      rw [if_pos rfl, if_pos (by simp [ls] at hl ⊢; omega)]
      refine f16_loop f k (m + 1) _ (by omega) ?_
      rw [ls_sapp, ho, bl_succ, hf, if_pos rfl, zl_app]
      rfl
    | false =>
      rw [if_neg (by simp)]
      refine f16_loop f k (m + 1) _ (by omega) ?_
      rw [ho, bl_succ, hf, if_neg (by simp), List.append_nil]
theorem f16_eq (f : Nat → Bool) : ∃ o, F16 (sa f) = some o ∧ ls o = zl (bl f 256) := by
  unfold F16
  exact f16_loop f 256 0 none (by omega) rfl

theorem f12_loop (t2 : Arr 4 Int) (o : Sl Int) : ∀ (ns pre : List Nat) (f : Nat → Bool), ls o = zl (pre ++ ns) → (∀ n ∈ ns, n < 256) → (pre ++ ns).length ≤ 140737488351232 →
    G12 (.p1 o ((ls o).length : Int) (pre.length : Int) t2 (sa f)) = some (sa (ns.foldl addS f))
  | [], pre, f, ho, hn, hl => by
    rw [G12.eq_1, df (by rw [ho, zl_len]; simp)]
    rfl
  | n :: ns, pre, f, ho, hn, hl => by
    simp only [List.length_append, List.length_cons] at hl
    rw [G12.eq_1, dt (by rw [ho, zl_len]; simp; omega), ix_nat, show (ls o)[pre.length]? = some (n : Int) by rw [ho, zl_app]; simp [zl], bs, add_eq f n (hn n (by simp)), bs, wrapi _ (by omega) (by omega)]
    have := f12_loop t2 o ns (pre ++ [n]) (addS f n) (by rw [ho]; simp) (fun x hx => hn x (by simp [hx])) (by simp; omega)
    rw [List.length_append, List.length_singleton] at this
    exact this
theorem f12_eq (o : Sl Int) (ns : List Nat) (ho : ls o = zl ns) (hn : ∀ n ∈ ns, n < 256) (hl : ns.length ≤ 140737488351232) : F12 o = some (sa (ns.foldl addS (fun _ => false))) := by
  unfold F12
  exact f12_loop (Arr.rep 4 0) o ns [] (fun _ => false) ho hn hl

theorem f13_loop (t2 : Arr 4 Int) (o : Sl Int) : ∀ (ns pre : List Nat) (f : Nat → Bool), ls o = zl (pre ++ ns) → (∀ n ∈ ns, n < 256) → (pre ++ ns).length ≤ 140737488351232 →
    G13 (.p1 o ((ls o).length : Int) (pre.length : Int) t2 (sa f)) = some (sa (ns.foldl addS f))
  | [], pre, f, ho, hn, hl => by
    rw [G13.eq_1, df (by rw [ho, zl_len]; simp)]
    rfl
  | n :: ns, pre, f, ho, hn, hl => by
    simp only [List.length_append, List.length_cons] at hl
    rw [G13.eq_1, dt (by rw [ho, zl_len]; simp; omega), ix_nat, show (ls o)[pre.length]? = some (n : Int) by rw [ho, zl_app]; simp [zl], bs, add_eq' f n (hn n (by simp)), bs, wrapi _ (by omega) (by omega)]
    have := f13_loop t2 o ns (pre ++ [n]) (addS f n) (by rw [ho]; simp) (fun x hx => hn x (by simp [hx])) (by simp; omega)
    rw [List.length_append, List.length_singleton] at this
    exact this
theorem f13_eq (o : Sl Int) (ns : List Nat) (ho : ls o = zl ns) (hn : ∀ n ∈ ns, n < 256) (hl : ns.length ≤ 140737488351232) : F13 o = some (sa (ns.foldl addS (fun _ => false))) := by
  unfold F13
  exact f13_loop (Arr.rep 4 0) o ns [] (fun _ => false) ho hn hl

theorem foldl_addS : ∀ (ns : List Nat) (f : Nat → Bool) (n : Nat), (ns.foldl addS f) n = (decide (n ∈ ns) || f n)
  | [], f, n => by simp
  | m :: ns, f, n => by
    rw [List.foldl_cons, foldl_addS ns, addS]
    by_cases h1 : n = m <;> by_cases h2 : n ∈ ns <;> simp [h1, h2]

theorem f25_word (f g : Nat → Bool) (i : Nat) : andI .u64 ((wd f i 64 : Nat) : Int) ((wd g i 64 : Nat) : Int) = ((wd (fun n => f n && g n) i 64 : Nat) : Int) := by
  rw [and_n _ _ (wd_lt64 f i) (wd_lt64 g i)]
  congr 1
  apply Nat.eq_of_testBit_eq
  intro j
  rw [Nat.testBit_and, wd_bit, wd_bit, wd_bit]
  cases decide (j < 64) <;> simp
theorem f25_loop (f g : Nat → Bool) (t4 : Arr 4 Int) : ∀ (k i : Nat), i + k = 4 → G25 (.p1 (i : Int) (sa fun n => if n < 64 * i then f n && g n else f n) (sa g) t4) = some (sa fun n => f n && g n)
  | 0, i, hi => by
    have : i = 4 := by omega
    subst this
    rw [G25.eq_1, df (by omega)]
    exact congrArg some (sa_ext fun n hn => by simp [hn])
  | k + 1, i, hi => by
    have e1 : wd (fun n => if n < 64 * i then f n && g n else f n) i 64 = wd f i 64 := wd_ext (fun n hn => by simp [show ¬ 64 * i + n < 64 * i by omega]) 64 (Nat.le_refl _)
    have e2 : wd (fun n => f n && g n) i 64 = wd (fun n => if n < 64 * (i + 1) then f n && g n else f n) i 64 := wd_ext (fun n hn => by simp [show 64 * i + n < 64 * (i + 1) by omega]) 64 (Nat.le_refl _)
    rw [G25.eq_1, dt (by omega), if_pos (by omega), sa_at _ i (by omega), bs, if_pos (by omega), sa_at _ i (by omega), bs, if_pos (by omega), wrapi _ (by omega) (by omega), e1, f25_word, e2]
    rw [sa_put _ (fun n => if n < 64 * (i + 1) then f n && g n else f n) i (by omega) (fun j hj hne => wd_ext (fun n hn => by
      by_cases h : j < i
      · simp [show 64 * j + n < 64 * i by omega, show 64 * j + n < 64 * (i + 1) by omega]
      · simp [show ¬ 64 * j + n < 64 * i by omega, show ¬ 64 * j + n < 64 * (i + 1) by omega]) 64 (Nat.le_refl _))]
    exact f25_loop f g t4 k (i + 1) (by omega)
theorem f25_eq (f g : Nat → Bool) : F25 (sa f) (sa g) = some (sa fun n => f n && g n) := by
  unfold F25
  have := f25_loop f g (Arr.rep 4 0) 4 0 rfl
  simpa using this

theorem f27_word (f g : Nat → Bool) (i : Nat) : orI .u64 ((wd f i 64 : Nat) : Int) ((wd g i 64 : Nat) : Int) = ((wd (fun n => f n || g n) i 64 : Nat) : Int) := by
  rw [or_n _ _ (wd_lt64 f i) (wd_lt64 g i)]
  congr 1
  apply Nat.eq_of_testBit_eq
  intro j
  rw [Nat.testBit_or, wd_bit, wd_bit, wd_bit]
  cases decide (j < 64) <;> simp
theorem f27_loop (f g : Nat → Bool) (t4 : Arr 4 Int) : ∀ (k i : Nat), i + k = 4 → G27 (.p1 (i : Int) (sa fun n => if n < 64 * i then f n || g n else f n) (sa g) t4) = some (sa fun n => f n || g n)
  | 0, i, hi => by
    have : i = 4 := by omega
    subst this
    rw [G27.eq_1, df (by omega)]
    exact congrArg some (sa_ext fun n hn => by simp [hn])
  | k + 1, i, hi => by
    have e1 : wd (fun n => if n < 64 * i then f n || g n else f n) i 64 = wd f i 64 := wd_ext (fun n hn => by simp [show ¬ 64 * i + n < 64 * i by omega]) 64 (Nat.le_refl _)
    have e2 : wd (fun n => f n || g n) i 64 = wd (fun n => if n < 64 * (i + 1) then f n || g n else f n) i 64 := wd_ext (fun n hn => by simp [show 64 * i + n < 64 * (i + 1) by omega]) 64 (Nat.le_refl _)
    rw [G27.eq_1, dt (by omega), if_pos (by omega), sa_at _ i (by omega), bs, if_pos (by omega), sa_at _ i (by omega), bs, if_pos (by omega), wrapi _ (by omega) (by omega), e1, f27_word, e2]
    rw [sa_put _ (fun n => if n < 64 * (i + 1) then f n || g n else f n) i (by omega) (fun j hj hne => wd_ext (fun n hn => by
      by_cases h : j < i
      · simp [show 64 * j + n < 64 * i by omega, show 64 * j + n < 64 * (i + 1) by omega]
      · simp [show ¬ 64 * j + n < 64 * i by omega, show ¬ 64 * j + n < 64 * (i + 1) by omega]) 64 (Nat.le_refl _))]
    exact f27_loop f g t4 k (i + 1) (by omega)
theorem f27_eq (f g : Nat → Bool) : F27 (sa f) (sa g) = some (sa fun n => f n || g n) := by
  unfold F27
  have := f27_loop f g (Arr.rep 4 0) 4 0 rfl
  simpa using this

theorem not_word (f : Nat → Bool) (i : Nat) : notI .u64 ((wd f i 64 : Nat) : Int) = ((wd (fun n => !f n) i 64 : Nat) : Int) := by
  rw [not_n _ (wd_lt64 f i)]
  congr 1
  apply Nat.eq_of_testBit_eq
  intro j
  rw [Nat.testBit_xor, wd_bit, wd_bit, Nat.testBit_two_pow_sub_one]
  cases decide (j < 64) <;> simp
theorem f29_loop (f : Nat → Bool) (t2 : Arr 4 Int) : ∀ (k i : Nat), i + k = 4 → G29 (.p1 (i : Int) (sa fun n => if n < 64 * i then !f n else f n) t2) = some (sa fun n => !f n)
  | 0, i, hi => by
    have : i = 4 := by omega
    subst this
    rw [G29.eq_1, df (by omega)]
    exact congrArg some (sa_ext fun n hn => by simp [hn])
  | k + 1, i, hi => by
    have e1 : wd (fun n => if n < 64 * i then !f n else f n) i 64 = wd f i 64 := wd_ext (fun n hn => by simp [show ¬ 64 * i + n < 64 * i by omega]) 64 (Nat.le_refl _)
    have e2 : wd (fun n => !f n) i 64 = wd (fun n => if n < 64 * (i + 1) then !f n else f n) i 64 := wd_ext (fun n hn => by simp [show 64 * i + n < 64 * (i + 1) by omega]) 64 (Nat.le_refl _)
    rw [G29.eq_1, dt (by omega), if_pos (by omega), sa_at _ i (by omega), bs, if_pos (by omega), wrapi _ (by omega) (by omega), e1, not_word, e2]
    rw [sa_put _ (fun n => if n < 64 * (i + 1) then !f n else f n) i (by omega) (fun j hj hne => wd_ext (fun n hn => by
      by_cases h : j < i
      · simp [show 64 * j + n < 64 * i by omega, show 64 * j + n < 64 * (i + 1) by omega]
      · simp [show ¬ 64 * j + n < 64 * i by omega, show ¬ 64 * j + n < 64 * (i + 1) by omega]) 64 (Nat.le_refl _))]
    exact f29_loop f t2 k (i + 1) (by omega)
theorem f29_eq (f : Nat → Bool) : F29 (sa f) = some (sa fun n => !f n) := by
  unfold F29
  have := f29_loop f (Arr.rep 4 0) 4 0 rfl
  simpa using this
theorem f30_loop (f : Nat → Bool) (t2 : Arr 4 Int) : ∀ (k m : Nat) (g : Nat → Bool), m + k = 256 → (∀ n, n < 256 → g n = (decide (n < m) && !f n)) → G30 (.p1 (m : Int) (sa f) t2 (sa g)) = some (sa fun n => !f n)
  | 0, m, g, hm, hg => by
    have hm' : m = 256 := by omega
    subst hm'
    rw [G30.eq_1, df (by omega)]
    exact congrArg some (sa_ext fun n hn => by rw [hg n hn]; simp [hn])
  | k + 1, m, g, hm, hg => by
    rw [G30.eq_1, dt (by omega), wrap8 m (by omega), has_eq' f m (by omega), bs, wrapi _ (by omega) (by omega)]
    cases hf : f m with
    | true =>
      rw [if_neg (by simp)]
      refine f30_loop f t2 k (m + 1) g (by omega) fun n hn => ?_
      rw [hg n hn]
      by_cases e : n = m
      · subst e; simp [hf]
      · have : decide (n < m) = decide (n < m + 1) := by simp; omega
        rw [this]
    | false =>
      rw [if_pos (by simp), add_eq' g m (by omega), bs]
      refine f30_loop f t2 k (m + 1) _ (by omega) fun n hn => ?_
      rw [addS, hg n hn]
      by_cases e : n = m
      · subst e; simp [hf]
      · have : decide (n < m) = decide (n < m + 1) := by simp; omega
        rw [this]; simp [e]
theorem f30_eq (f : Nat → Bool) : F30 (sa f) = some (sa fun n => !f n) := by
  unfold F30
  exact f30_loop f (Arr.rep 4 0) 256 0 (fun _ => false) (by omega) (fun n hn => by simp)

theorem f26_loop (g : Nat → Bool) (t4 : Arr 4 Int) (o : Sl Int) : ∀ (ns pre : List Nat) (h : Nat → Bool), ls o = zl (pre ++ ns) → (∀ n ∈ ns, n < 256) → (pre ++ ns).length ≤ 140737488351232 →
    G26 (.p1 o ((ls o).length : Int) (pre.length : Int) (sa g) t4 (sa h)) = some (sa fun n => (decide (n ∈ ns) && g n) || h n)
  | [], pre, h, ho, hn, hl => by
    rw [G26.eq_1, df (by rw [ho, zl_len]; simp)]
    simp
  | n :: ns, pre, h, ho, hn, hl => by
    simp only [List.length_append, List.length_cons] at hl
    rw [G26.eq_1, dt (by rw [ho, zl_len]; simp; omega), ix_nat, show (ls o)[pre.length]? = some (n : Int) by rw [ho, zl_app]; simp [zl], bs, has_eq' g n (hn n (by simp)), bs, wrapi _ (by omega) (by omega)]
    have step := fun h' => f26_loop g t4 o ns (pre ++ [n]) h' (by rw [ho]; simp) (fun x hx => hn x (by simp [hx])) (by simp; omega)
    simp only [List.length_append, List.length_singleton, Int.natCast_add, Int.cast_ofNat_Int] at step
    cases hg : g n with
    | true =>
      rw [if_pos rfl, add_eq' h n (hn n (by simp)), bs, step]
      congr 1; apply sa_ext; intro x hx
      by_cases e : x = n
      · subst e; simp [addS, hg]
      · simp [addS, e]
    | false =>
      rw [if_neg (by simp), step]
      congr 1; apply sa_ext; intro x hx
      by_cases e : x = n
      · subst e; simp [hg]
      · simp [e]
theorem f26_eq (f g : Nat → Bool) : F26 (sa f) (sa g) = some (sa fun n => f n && g n) := by
  obtain ⟨o, h1, h2⟩ := f16_eq f
  unfold F26
  rw [h1, bs]
  have := f26_loop g (Arr.rep 4 0) o (bl f 256) [] (fun _ => false) h2 (fun n hn => (bl_mem.1 hn).1) (by have := bl_len f 256; simp; omega)
  rw [sa_none] at this
  refine this.trans (congrArg some (sa_ext fun n hn => ?_))
  cases hf : f n <;> simp [bl_mem, hn, hf]
theorem f28_loop (t4 : Arr 4 Int) (o : Sl Int) : ∀ (ns pre : List Nat) (h : Nat → Bool), ls o = zl (pre ++ ns) → (∀ n ∈ ns, n < 256) → (pre ++ ns).length ≤ 140737488351232 →
    G28 (.p1 o ((ls o).length : Int) (pre.length : Int) (sa h) t4) = some (sa fun n => h n || decide (n ∈ ns))
  | [], pre, h, ho, hn, hl => by
    rw [G28.eq_1, df (by rw [ho, zl_len]; simp)]
    simp
  | n :: ns, pre, h, ho, hn, hl => by
    simp only [List.length_append, List.length_cons] at hl
    rw [G28.eq_1, dt (by rw [ho, zl_len]; simp; omega), ix_nat, show (ls o)[pre.length]? = some (n : Int) by rw [ho, zl_app]; simp [zl], bs, wrapi _ (by omega) (by omega), add_eq' h n (hn n (by simp)), bs]
    have step := fun h' => f28_loop t4 o ns (pre ++ [n]) h' (by rw [ho]; simp) (fun x hx => hn x (by simp [hx])) (by simp; omega)
    simp only [List.length_append, List.length_singleton, Int.natCast_add, Int.cast_ofNat_Int] at step
    rw [step]
    congr 1; apply sa_ext; intro x hx
    by_cases e : x = n
    · subst e; simp [addS]
    · simp [addS, e]
theorem f28_eq (f g : Nat → Bool) : F28 (sa f) (sa g) = some (sa fun n => f n || g n) := by
  obtain ⟨o, h1, h2⟩ := f16_eq g
  unfold F28
  rw [h1, bs]
  refine (f28_loop (Arr.rep 4 0) o (bl g 256) [] f h2 (fun n hn => (bl_mem.1 hn).1) (by have := bl_len g 256; simp; omega)).trans (congrArg some (sa_ext fun n hn => ?_))
  cases hf : g n <;> simp [bl_mem, hn, hf]

end Go.Proofs.Ytfjdegohjnejkaa
