/-
  Lines: how many lines two lists have in common, from each two places on; tables of that, and the changes read off them.
-/
import Derived.Test.YtllhdbdbdblimaaDoorLinP4
import Derived.Test.YtllhdbdbdblimaaDoorD3
import Derived.Test.YtllhdbdbdblimaaDoorLinP5
import Derived.Lib.ItoaLen
import Derived.Test.YtllhdbdbdblimaaDoorPureA
namespace Go.Proofs.YtllhdbdbdblimaaDoor
open Go AW
set_option linter.unusedVariables false
set_option linter.unusedSimpArgs false
set_option linter.unusedSectionVars false

/-- How many lines can be kept. -/
def lcs : List Ln → List Ln → Nat
  | [], _ => 0
  | _ :: _, [] => 0
  | x :: xs, y :: ys => if x = y then lcs xs ys + 1 else max (lcs xs (y :: ys)) (lcs (x :: xs) ys)
termination_by a b => a.length + b.length
theorem lcs_nil (l : List Ln) : lcs l [] = 0 := by cases l <;> simp [lcs]
theorem lcs_nil' (l : List Ln) : lcs [] l = 0 := by simp [lcs]
theorem lcs_cons (x y : Ln) (xs ys : List Ln) : lcs (x :: xs) (y :: ys) = if x = y then lcs xs ys + 1 else max (lcs xs (y :: ys)) (lcs (x :: xs) ys) := by rw [lcs]

theorem lcs_steps : ∀ (n : Nat) (xs ys : List Ln), xs.length + ys.length ≤ n → (∀ x, lcs xs ys ≤ lcs (x :: xs) ys ∧ lcs (x :: xs) ys ≤ lcs xs ys + 1) ∧ (∀ y, lcs xs ys ≤ lcs xs (y :: ys) ∧ lcs xs (y :: ys) ≤ lcs xs ys + 1)
  | 0, xs, ys, h => by
    have h1 : xs = [] := List.eq_nil_of_length_eq_zero (by omega)
    have h2 : ys = [] := List.eq_nil_of_length_eq_zero (by omega)
    subst h1; subst h2
    exact ⟨fun x => by simp [lcs_nil], fun y => by simp [lcs_nil']⟩
  | n + 1, xs, ys, h => by
    refine ⟨fun x => ?_, fun y => ?_⟩
    · cases ys with
      | nil => simp [lcs_nil]
      | cons y ys =>
        simp only [List.length_cons] at h
        have i1 := lcs_steps n xs ys (by omega)
        rw [lcs_cons]
        split
        · have := i1.2 y; omega
        · have h2 := i1.1 x
          have h3 := i1.2 y
          have : max (lcs xs (y :: ys)) (lcs (x :: xs) ys) ≤ lcs xs (y :: ys) + 1 := by omega
          omega
    · cases xs with
      | nil => simp [lcs_nil']
      | cons x xs =>
        simp only [List.length_cons] at h
        have i1 := lcs_steps n xs ys (by omega)
        rw [lcs_cons]
        split
        · have := i1.1 x; omega
        · have h2 := i1.2 y
          have h3 := i1.1 x
          omega
theorem lcs_x (x : Ln) (xs ys : List Ln) : lcs xs ys ≤ lcs (x :: xs) ys ∧ lcs (x :: xs) ys ≤ lcs xs ys + 1 := (lcs_steps _ xs ys (Nat.le_refl _)).1 x
theorem lcs_y (y : Ln) (xs ys : List Ln) : lcs xs ys ≤ lcs xs (y :: ys) ∧ lcs xs (y :: ys) ≤ lcs xs ys + 1 := (lcs_steps _ xs ys (Nat.le_refl _)).2 y
theorem lcs_len : ∀ (xs ys : List Ln), lcs xs ys ≤ xs.length
  | [], ys => by simp [lcs_nil']
  | x :: xs, ys => by have := lcs_x x xs ys; have := lcs_len xs ys; simp only [List.length_cons]; omega

/-! ### Tables -/
def row (m : Nat) (f : Nat → Int) : List Int := (List.range (m + 1)).map f
def tabP (n m : Nat) (p : Nat → Bool) (f : Nat → Nat → Int) : List (Sl Int) := (List.range (n + 1)).map fun a => if p a then some (row m (f a)) else none
def upd2 (f : Nat → Nat → Int) (i k : Nat) (v : Int) : Nat → Nat → Int := fun a b => if a = i ∧ b = k then v else f a b

theorem row_ix {m : Nat} {f : Nat → Int} {k : Nat} (h : k ≤ m) : ix (row m f) (k : Int) = some (f k) := ixs (by unfold row; rw [List.getElem?_map, List.getElem?_range (by omega)]; rfl)
theorem tab_ix {n m : Nat} {p : Nat → Bool} {f : Nat → Nat → Int} {i : Nat} (h : i ≤ n) (hp : p i = true) : ix (tabP n m p f) (i : Int) = some (some (row m (f i))) := ixs (by unfold tabP; rw [List.getElem?_map, List.getElem?_range (by omega)]; simp [hp])
theorem tab_none {n m : Nat} {p : Nat → Bool} {f : Nat → Nat → Int} {i : Nat} (h : i ≤ n) (hp : p i = false) : ix (tabP n m p f) (i : Int) = some none := ixs (by unfold tabP; rw [List.getElem?_map, List.getElem?_range (by omega)]; simp [hp])
theorem tab_congr {n m : Nat} {p q : Nat → Bool} {f g : Nat → Nat → Int} (hp : ∀ a, a ≤ n → p a = q a) (h : ∀ a b, a ≤ n → b ≤ m → p a = true → f a b = g a b) : tabP n m p f = tabP n m q g := by
  unfold tabP
  refine List.map_congr_left fun a ha => ?_
  have ha' : a ≤ n := by simp at ha; omega
  rw [← hp a ha']
  cases e : p a with
  | false => rfl
  | true =>
    simp only [if_true]
    congr 1
    unfold row
    refine List.map_congr_left fun b hb => ?_
    exact h a b ha' (by simp at hb; omega) e
theorem row_set {m : Nat} {f : Nat → Int} {k : Nat} (v : Int) (h : k ≤ m) : (row m f).set k v = row m (fun b => if b = k then v else f b) := by
  apply List.ext_getElem?
  intro j
  rw [List.getElem?_set]
  simp only [row, List.getElem?_map, List.length_map, List.length_range]
  rcases Nat.lt_or_ge j (m + 1) with hj | hj
  · by_cases e : k = j
    · subst e; simp [hj]
    · rw [if_neg e]; simp [hj, Ne.symm e]
  · rw [if_neg (by omega)]; simp [hj]
theorem tab_set {n m : Nat} {p : Nat → Bool} {f : Nat → Nat → Int} {i k : Nat} (v : Int) (hi : i ≤ n) (hk : k ≤ m) (hp : p i = true) : List.set (tabP n m p f) (Int.toNat (i : Int)) (vset (some (row m (f i))) (k : Int) v) = tabP n m p (upd2 f i k v) := by
  rw [Int.toNat_natCast]
  simp only [vset, Option.map_some, Int.toNat_natCast, row_set v hk]
  apply List.ext_getElem?
  intro j
  rw [List.getElem?_set]
  simp only [tabP, List.getElem?_map, List.length_map, List.length_range]
  rcases Nat.lt_or_ge j (n + 1) with hj | hj
  · by_cases e : i = j
    · subst e
      simp only [hj, if_true, List.getElem?_range, Option.map_some, hp]
      refine congrArg some (congrArg some (congrArg (row m) ?_))
      funext b; simp [upd2]
    · rw [if_neg e]
      simp only [hj, List.getElem?_range, Option.map_some]
      have : upd2 f i k v j = f j := by funext b; simp [upd2, Ne.symm e]
      rw [this]
  · rw [if_neg (by omega)]; simp [hj]
theorem tab_put {n m : Nat} {p : Nat → Bool} {f : Nat → Nat → Int} {i : Nat} (hi : i ≤ n) : List.set (tabP n m p f) (Int.toNat (i : Int)) (some (List.replicate (m + 1) (0 : Int))) = tabP n m (fun a => p a || a == i) (fun a b => if a = i then 0 else f a b) := by
  rw [Int.toNat_natCast]
  have hr : List.replicate (m + 1) (0 : Int) = row m (fun _ => 0) := by
    apply List.ext_getElem?
    intro j
    simp only [row, List.getElem?_replicate, List.getElem?_map]
    rcases Nat.lt_or_ge j (m + 1) with hj | hj
    · simp [hj]
    · simp [hj]
  rw [hr]
  apply List.ext_getElem?
  intro j
  rw [List.getElem?_set]
  simp only [tabP, List.getElem?_map, List.length_map, List.length_range]
  rcases Nat.lt_or_ge j (n + 1) with hj | hj
  · by_cases e : i = j
    · subst e; simp [hj]
    · rw [if_neg e]; simp [hj, Ne.symm e, beq_false_of_ne (Ne.symm e)]
  · rw [if_neg (by omega)]; simp [hj]
theorem tab_nil {n m : Nat} (f : Nat → Nat → Int) : List.replicate (n + 1) (none : Sl Int) = tabP n m (fun _ => false) f := by
  apply List.ext_getElem?
  intro j
  simp only [tabP, List.getElem?_replicate, List.getElem?_map]
  rcases Nat.lt_or_ge j (n + 1) with hj | hj
  · simp [hj]
  · simp [hj]
theorem wu16 (x : Int) (h : 0 ≤ x) (h' : x ≤ 65535) : IntKind.wrap .u16 x = x := by
  simp only [IntKind.wrap, IntKind.bits, IntKind.signed, Bool.false_and, Bool.false_eq_true, if_false]
  have e : (2 : Int) ^ 16 = 65536 := by decide
  first
    | omega
    | (simp only [e]; omega)

theorem lt_succ_b (a j : Nat) : (decide (a < j) || a == j) = decide (a < j + 1) := by
  rcases Nat.lt_trichotomy a j with h | h | h
  · have h1 : a < j + 1 := by omega
    simp [h, h1]
  · simp [h]
  · have h1 : ¬ a < j := by omega
    have h2 : ¬ a = j := by omega
    have h3 : ¬ a < j + 1 := by omega
    simp [h1, h2, h3]
/-- The table of a list's and another one's lines. -/
def lcc (A B : List Ln) (i k : Nat) : Int := (lcs (A.drop i) (B.drop k) : Nat)
theorem lcc_last (A B : List Ln) (i : Nat) : lcc A B i B.length = 0 := by simp [lcc, lcs_nil]
theorem lcc_last' (A B : List Ln) (k : Nat) : lcc A B A.length k = 0 := by simp [lcc, lcs_nil']
theorem lcc_step (A B : List Ln) {i k : Nat} {x y : Ln} (hx : A[i]? = some x) (hy : B[k]? = some y) : lcc A B i k = if x = y then lcc A B (i + 1) (k + 1) + 1 else if lcc A B i (k + 1) > lcc A B (i + 1) k then lcc A B i (k + 1) else lcc A B (i + 1) k := by
  unfold lcc
  rw [drop_cons hx, drop_cons hy, lcs_cons]
  split
  · omega
  · split <;> omega
theorem lcc_le (A B : List Ln) (i k : Nat) : 0 ≤ lcc A B i k ∧ lcc A B i k ≤ A.length := by
  unfold lcc
  have := lcs_len (A.drop i) (B.drop k)
  simp only [List.length_drop] at this
  omega
theorem lcc_max (A B : List Ln) {i k : Nat} {x y : Ln} (hx : A[i]? = some x) (hy : B[k]? = some y) : lcc A B (i + 1) k ≤ lcc A B (i + 1) (k + 1) + 1 ∧ lcc A B i (k + 1) ≤ lcc A B (i + 1) (k + 1) + 1 := by
  unfold lcc
  rw [drop_cons hx, drop_cons hy]
  have h1 := lcs_x x (A.drop (i + 1)) (B.drop (k + 1))
  have h2 := lcs_y y (A.drop (i + 1)) (B.drop (k + 1))
  omega

section
variable (A B : List Ln) (hA : A.length ≤ 4096) (hB : B.length ≤ 4096)
include hA hB
/-- The program's table. -/
theorem g51p3 (i : Nat) (hi : i < A.length) (hn : ∀ f : Nat → Nat → Int, (∀ a b, a ≤ A.length → b ≤ B.length → i ≤ a → f a b = lcc A B a b) → (∀ a, a ≤ A.length → f a B.length = 0) → G51 (.p2 (so A) (so B) ((i : Int) - 1) (tabP A.length B.length (fun _ => true) f)) = some (tabP A.length B.length (fun _ => true) (lcc A B))) :
    ∀ (l : Nat) (f : Nat → Nat → Int), l ≤ B.length → (∀ a b, a ≤ A.length → b ≤ B.length → (i < a ∨ i = a ∧ l ≤ b) → f a b = lcc A B a b) → (∀ a, a ≤ A.length → f a B.length = 0) → G51 (.p3 (so A) (so B) i ((l : Int) - 1) (tabP A.length B.length (fun _ => true) f)) = some (tabP A.length B.length (fun _ => true) (lcc A B))
  | 0, f, hl, hf, h0 => by
    rw [G51.eq_3, dfi (by omega), wi _ (by omega) (by omega)]
    exact hn f (fun a b ha hb h => hf a b ha hb (by omega)) h0
  | l + 1, f, hl, hf, h0 => by
    obtain ⟨x, hx⟩ := get_ex A hi
    obtain ⟨y, hy⟩ := get_ex B (show l < B.length by omega)
    have e1 : ((l + 1 : Nat) : Int) - 1 = (l : Int) := by omega
    have e2 : IntKind.wrap .i64 ((i : Int) + 1) = ((i + 1 : Nat) : Int) := wn1 i (by omega)
    have e3 : IntKind.wrap .i64 ((l : Int) + 1) = ((l + 1 : Nat) : Int) := wn1 l (by omega)
    have e4 : IntKind.wrap .i64 ((l : Int) - 1) = (l : Int) - 1 := wi _ (by omega) (by omega)
    have f1 := hf (i + 1) (l + 1) (by omega) (by omega) (by omega)
    have f2 := hf (i + 1) l (by omega) (by omega) (by omega)
    have f3 := hf i (l + 1) (by omega) (by omega) (by omega)
    have ih := fun v (hv : v = lcc A B i l) => g51p3 i hi hn l (upd2 f i l v) (by omega) (fun a b ha hb h => by
      unfold upd2
      split
      · rename_i e; rw [e.1, e.2]; exact hv
      · exact hf a b ha hb (by omega)) (fun a ha => by
      unfold upd2
      rw [if_neg (by omega)]; exact h0 a ha)
    rw [e1, G51.eq_3, dti (by omega), ls_so, ls_so, ixs hx, sm, ixs hy, sm]
    have hcc := lcc_step A B hx hy
    by_cases hxy : x = y
    · rw [dti hxy, tab_ix (by omega) rfl, sm, e2, tab_ix (by omega) rfl, sm, ls_some, e3, row_ix (by omega), sm, ls_some, row_ix (by omega), sm, e4, tab_set _ (by omega) (by omega) rfl]
      refine ih _ ?_
      rw [if_pos hxy] at hcc
      have := lcc_le A B (i + 1) (l + 1)
      rw [f1, hcc, wu16 _ (by omega) (by omega)]
    · rw [dfi hxy, tab_ix (by omega) rfl, sm, e2, tab_ix (by omega) rfl, sm, ls_some, row_ix (by omega), sm, sm, ls_some, e3, row_ix (by omega), sm, row_ix (by omega), sm, e4, tab_set _ (by omega) (by omega) rfl]
      refine ih _ ?_
      rw [if_neg hxy] at hcc
      rw [f2, f3, hcc]
theorem g51p2 : ∀ (j : Nat) (f : Nat → Nat → Int), j ≤ A.length → (∀ a b, a ≤ A.length → b ≤ B.length → j ≤ a → f a b = lcc A B a b) → (∀ a, a ≤ A.length → f a B.length = 0) → G51 (.p2 (so A) (so B) ((j : Int) - 1) (tabP A.length B.length (fun _ => true) f)) = some (tabP A.length B.length (fun _ => true) (lcc A B))
  | 0, f, hj, hf, h0 => by
    rw [G51.eq_2, dfi (by omega)]
    congr 1
    exact tab_congr (fun _ _ => rfl) fun a b ha hb _ => hf a b ha hb (by omega)
  | j + 1, f, hj, hf, h0 => by
    have e1 : ((j + 1 : Nat) : Int) - 1 = (j : Int) := by omega
    have e3 : IntKind.wrap .i64 ((B.length : Int) - 1) = ((B.length : Int) - 1) := wi _ (by omega) (by omega)
    rw [e1, G51.eq_2, dti (by omega), ls_so, e3]
    refine g51p3 A B hA hB j (by omega) (fun f' hf' h0' => g51p2 j f' (by omega) hf' h0') B.length f (Nat.le_refl _) (fun a b ha hb h => ?_) h0
    rcases h with h | ⟨rfl, h⟩
    · exact hf a b ha hb (by omega)
    · have : b = B.length := by omega
      subst this
      rw [h0 _ (by omega), lcc_last]
theorem g51p1 : ∀ (d j : Nat), d + j = A.length + 1 → G51 (.p1 (so A) (so B) ((A.length + 1 : Nat) : Int) j (tabP A.length B.length (fun a => decide (a < j)) (fun _ _ => 0))) = some (tabP A.length B.length (fun _ => true) (lcc A B))
  | 0, j, h => by
    have e3 : IntKind.wrap .i64 ((A.length : Int) - 1) = ((A.length : Int) - 1) := wi _ (by omega) (by omega)
    rw [G51.eq_1, dfi (by omega), ls_so, e3, tab_congr (q := fun _ => true) (g := fun _ _ => 0) (fun a ha => decide_eq_true (by omega)) (fun _ _ _ _ _ => rfl)]
    refine g51p2 A B hA hB A.length _ (Nat.le_refl _) (fun a b ha hb h => ?_) fun _ _ => rfl
    have : a = A.length := by omega
    subst this
    rw [lcc_last']
  | d + 1, j, h => by
    have e2 : IntKind.wrap .i64 ((B.length : Int) + 1) = ((B.length + 1 : Nat) : Int) := wn1 _ (by omega)
    have e3 : IntKind.wrap .i64 ((j : Int) + 1) = ((j + 1 : Nat) : Int) := wn1 _ (by omega)
    rw [G51.eq_1, dti (by omega), ls_so, e2, if_pos ⟨by omega, rfl, by omega⟩, tab_none (by omega) (by simp), sm, e3, Int.toNat_natCast (B.length + 1), tab_put (by omega)]
    rw [tab_congr (q := fun a => decide (a < j + 1)) (g := fun _ _ => 0) (fun a ha => lt_succ_b a j) (fun a b _ _ _ => by split <;> rfl)]
    exact g51p1 d (j + 1) (by omega)
theorem f51 : F51 (so A) (so B) = some (tabP A.length B.length (fun _ => true) (lcc A B)) := by
  unfold F51
  have e2 : IntKind.wrap .i64 ((A.length : Int) + 1) = ((A.length + 1 : Nat) : Int) := wn1 _ (by omega)
  rw [ls_so, e2, if_pos ⟨by omega, rfl, by omega⟩, Int.toNat_natCast, List.length_replicate, tab_nil (n := A.length) (m := B.length) (fun _ _ => 0)]
  rw [tab_congr (q := fun a => decide (a < 0)) (g := fun _ _ => 0) (fun a ha => by simp) (fun a b _ _ _ => rfl)]
  exact g51p1 A B hA hB (A.length + 1) 0 (by omega)

/-- The reference's table. -/
theorem g52p2 (i : Nat) (hi : i ≤ A.length) (hn : ∀ f : Nat → Nat → Int, (∀ a b, a ≤ A.length → b ≤ B.length → i ≤ a → f a b = lcc A B a b) → G52 (.p1 (so A) (so B) ((i : Int) - 1) (tabP A.length B.length (fun a => decide (i ≤ a)) f)) = some (tabP A.length B.length (fun _ => true) (lcc A B))) :
    ∀ (l : Nat) (f : Nat → Nat → Int), l ≤ B.length → (∀ a b, a ≤ A.length → b ≤ B.length → (i < a ∨ i = a ∧ l ≤ b ∨ i = a ∧ i = A.length) → f a b = lcc A B a b) → G52 (.p2 (so A) (so B) i ((l : Int) - 1) (tabP A.length B.length (fun a => decide (i ≤ a)) f)) = some (tabP A.length B.length (fun _ => true) (lcc A B))
  | 0, f, hl, hf => by
    rw [G52.eq_2, dfi (by omega), wi _ (by omega) (by omega)]
    exact hn f fun a b ha hb h => hf a b ha hb (by omega)
  | l + 1, f, hl, hf => by
    have e1 : ((l + 1 : Nat) : Int) - 1 = (l : Int) := by omega
    have e4 : IntKind.wrap .i64 ((l : Int) - 1) = (l : Int) - 1 := wi _ (by omega) (by omega)
    by_cases hia : i = A.length
    · rw [e1, G52.eq_2, dti (by omega), ls_so, ti (by simp [hia]), e4]
      exact g52p2 i hi hn l f (by omega) fun a b ha hb h => hf a b ha hb (by omega)
    obtain ⟨x, hx⟩ := get_ex A (show i < A.length by omega)
    obtain ⟨y, hy⟩ := get_ex B (show l < B.length by omega)
    have e2 : IntKind.wrap .i64 ((i : Int) + 1) = ((i + 1 : Nat) : Int) := wn1 i (by omega)
    have e3 : IntKind.wrap .i64 ((l : Int) + 1) = ((l + 1 : Nat) : Int) := wn1 l (by omega)
    have f1 := hf (i + 1) (l + 1) (by omega) (by omega) (by omega)
    have f2 := hf (i + 1) l (by omega) (by omega) (by omega)
    have f3 := hf i (l + 1) (by omega) (by omega) (by omega)
    have ih := fun v (hv : v = lcc A B i l) => g52p2 i hi hn l (upd2 f i l v) (by omega) fun a b ha hb h => by
      unfold upd2
      split
      · rename_i e; rw [e.1, e.2]; exact hv
      · exact hf a b ha hb (by omega)
    have hb1 : (fun a => decide (i ≤ a)) i = true := by simp
    have hb2 : (fun a => decide (i ≤ a)) (i + 1) = true := by simp
    have hcc := lcc_step A B hx hy
    have hmx := lcc_max A B hx hy
    have hle := lcc_le A B (i + 1) (l + 1)
    rw [e1, G52.eq_2, dti (by omega), ls_so, ls_so, fi_ (by simp; omega), tab_ix (by omega) hb1, sm, e2, tab_ix (by omega) hb2, sm, ls_some, row_ix (by omega), sm, sm, ls_some, e3, row_ix (by omega), sm, row_ix (by omega), sm, ixs hx, sm, ixs hy, sm, tab_set _ (by omega) (by omega) hb1]
    by_cases hxy : x = y
    · rw [dti hxy, tab_ix (by omega) hb1, sm, sm, ls_some, row_ix (by omega), sm, tab_ix (by omega) hb2, sm, ls_some, row_ix (by omega), sm, sm, e4]
      have e5 : upd2 f i l (if f i (l + 1) > f (i + 1) l then f i (l + 1) else f (i + 1) l) i l = if f i (l + 1) > f (i + 1) l then f i (l + 1) else f (i + 1) l := by simp [upd2]
      have e6 : upd2 f i l (if f i (l + 1) > f (i + 1) l then f i (l + 1) else f (i + 1) l) (i + 1) (l + 1) = f (i + 1) (l + 1) := by simp [upd2]
      rw [tab_set _ (by omega) (by omega) hb1, e5, e6]
      have e7 : ∀ u v, upd2 (upd2 f i l u) i l v = upd2 f i l v := fun u v => by
        funext a b; unfold upd2; split <;> rfl
      rw [e7]
      refine ih _ ?_
      rw [if_pos hxy] at hcc
      rw [f1, f2, f3, hcc, wi _ (by omega) (by omega)]
      split <;> split <;> omega
    · rw [dfi hxy, e4]
      refine ih _ ?_
      rw [if_neg hxy] at hcc
      rw [f2, f3, hcc]
theorem g52p1 : ∀ (j : Nat) (f : Nat → Nat → Int), j ≤ A.length + 1 → (∀ a b, a ≤ A.length → b ≤ B.length → j ≤ a → f a b = lcc A B a b) → G52 (.p1 (so A) (so B) ((j : Int) - 1) (tabP A.length B.length (fun a => decide (j ≤ a)) f)) = some (tabP A.length B.length (fun _ => true) (lcc A B))
  | 0, f, hj, hf => by
    rw [G52.eq_1, dfi (by omega)]
    congr 1
    exact tab_congr (fun _ _ => by simp) fun a b ha hb _ => hf a b ha hb (by omega)
  | j + 1, f, hj, hf => by
    have e1 : ((j + 1 : Nat) : Int) - 1 = (j : Int) := by omega
    have e2 : IntKind.wrap .i64 ((B.length : Int) + 1) = ((B.length + 1 : Nat) : Int) := wn1 _ (by omega)
    have e3 : IntKind.wrap .i64 ((B.length : Int) - 1) = ((B.length : Int) - 1) := wi _ (by omega) (by omega)
    rw [e1, G52.eq_1, dti (by omega), ls_so, e2, if_pos ⟨by omega, rfl, by omega⟩, tab_none (by omega) (by simp), sm, e3, Int.toNat_natCast (B.length + 1), tab_put (by omega)]
    rw [tab_congr (q := fun a => decide (j ≤ a)) (g := fun a b => if a = j then 0 else f a b) (fun a ha => by
      rcases Nat.lt_trichotomy a j with h' | h' | h'
      · have : ¬ (j + 1 ≤ a) := by omega
        have h2 : ¬ (j ≤ a) := by omega
        have h3 : ¬ (a = j) := by omega
        simp [this, h2, h3]
      · simp [h']
      · have : (j + 1 ≤ a) := by omega
        have h2 : (j ≤ a) := by omega
        simp [this, h2]) (fun a b _ _ _ => rfl)]
    refine g52p2 A B hA hB j (by omega) (fun f' hf' => g52p1 j f' (by omega) hf') B.length _ (Nat.le_refl _) fun a b ha hb h => ?_
    rcases h with h | ⟨rfl, h⟩ | ⟨rfl, h⟩
    · rw [if_neg (by omega)]; exact hf a b ha hb (by omega)
    · have : b = B.length := by omega
      subst this
      rw [if_pos rfl, lcc_last]
    · subst h
      rw [if_pos rfl, lcc_last']
theorem f52 : F52 (so A) (so B) = some (tabP A.length B.length (fun _ => true) (lcc A B)) := by
  unfold F52
  have e2 : IntKind.wrap .i64 ((A.length : Int) + 1) = ((A.length + 1 : Nat) : Int) := wn1 _ (by omega)
  rw [ls_so, e2, if_pos ⟨by omega, rfl, by omega⟩, Int.toNat_natCast, tab_nil (n := A.length) (m := B.length) (fun _ _ => 0)]
  rw [tab_congr (q := fun a => decide (A.length + 1 ≤ a)) (g := fun _ _ => 0) (fun a ha => by simp; omega) (fun a b _ _ _ => rfl)]
  have := g52p1 A B hA hB (A.length + 1) (fun _ _ => 0) (Nat.le_refl _) fun a b ha hb h => by omega
  rw [show ((A.length + 1 : Nat) : Int) - 1 = (A.length : Int) by omega] at this
  exact this
end
end Go.Proofs.YtllhdbdbdblimaaDoor

/-!
  Lines: the changes that make one list of lines of another; what changes do; counts of changes.
-/
namespace Go.Proofs.YtllhdbdbdblimaaDoor
open Go AW
set_option linter.unusedVariables false
set_option linter.unusedSimpArgs false
set_option linter.unusedSectionVars false

def ck (k : Int) (x : Ln) : T54 := { Kind := k, Line := x }
def df : List Ln → List Ln → List T54
  | [], [] => []
  | [], y :: ys => ck 3 y :: df [] ys
  | x :: xs, [] => ck 2 x :: df xs []
  | x :: xs, y :: ys => if x = y then ck 1 x :: df xs ys else if lcs xs (y :: ys) = lcs (x :: xs) (y :: ys) then ck 2 x :: df xs (y :: ys) else ck 3 y :: df (x :: xs) ys
termination_by a b => a.length + b.length
theorem df_nn : df [] [] = [] := by rw [df]
theorem df_nc (y : Ln) (ys : List Ln) : df [] (y :: ys) = ck 3 y :: df [] ys := by rw [df]
theorem df_cn (x : Ln) (xs : List Ln) : df (x :: xs) [] = ck 2 x :: df xs [] := by rw [df]
theorem df_cc (x y : Ln) (xs ys : List Ln) : df (x :: xs) (y :: ys) = if x = y then ck 1 x :: df xs ys else if lcs xs (y :: ys) = lcs (x :: xs) (y :: ys) then ck 2 x :: df xs (y :: ys) else ck 3 y :: df (x :: xs) ys := by rw [df]
theorem df_len : ∀ (n : Nat) (A B : List Ln), A.length + B.length ≤ n → (df A B).length ≤ A.length + B.length
  | 0, A, B, h => by
    have h1 : A = [] := List.eq_nil_of_length_eq_zero (by omega)
    have h2 : B = [] := List.eq_nil_of_length_eq_zero (by omega)
    subst h1; subst h2; rw [df_nn]; simp
  | n + 1, [], [], h => by rw [df_nn]; simp
  | n + 1, [], y :: ys, h => by
    have := df_len n [] ys (by simp only [List.length_cons, List.length_nil] at h ⊢; omega)
    rw [df_nc]; simp only [List.length_cons, List.length_nil] at this ⊢; omega
  | n + 1, x :: xs, [], h => by
    have := df_len n xs [] (by simp only [List.length_cons, List.length_nil] at h ⊢; omega)
    rw [df_cn]; simp only [List.length_cons, List.length_nil] at this ⊢; omega
  | n + 1, x :: xs, y :: ys, h => by
    simp only [List.length_cons] at h
    have h1 := df_len n xs ys (by omega)
    have h2 := df_len n xs (y :: ys) (by simp only [List.length_cons]; omega)
    have h3 := df_len n (x :: xs) ys (by simp only [List.length_cons]; omega)
    rw [df_cc]
    simp only [List.length_cons] at h2 h3 ⊢
    split
    · simp only [List.length_cons]; omega
    · split <;> simp only [List.length_cons] <;> omega

section
variable (A B : List Ln) (hA : A.length ≤ 4096) (hB : B.length ≤ 4096)
include hA hB
theorem lcc_tab {i k : Nat} (hi : i ≤ A.length) : ix (tabP A.length B.length (fun _ => true) (lcc A B)) (i : Int) = some (some (row B.length (lcc A B i))) := tab_ix hi rfl
theorem g33 : ∀ (N i k : Nat) (out : List T54), (A.length - i) + (B.length - k) ≤ N → i ≤ A.length → k ≤ B.length → out.length + (A.length - i) + (B.length - k) ≤ 8192 → G33 (.p1 (so A) (so B) i k (tabP A.length B.length (fun _ => true) (lcc A B)) (so out)) = some (so (out ++ df (A.drop i) (B.drop k)), 0)
  | N, i, k, out, h, hi, hk, ho => by
    have w1 : IntKind.wrap .i64 ((i : Int) + 1) = ((i + 1 : Nat) : Int) := wn1 i (by omega)
    have w2 : IntKind.wrap .i64 ((k : Int) + 1) = ((k + 1 : Nat) : Int) := wn1 k (by omega)
    by_cases hd : i = A.length ∧ k = B.length
    · obtain ⟨rfl, rfl⟩ := hd
      rw [G33.eq_1, ls_so, ls_so, dfi (by omega), dfi (by omega), List.drop_length, List.drop_length, df_nn, List.append_nil]
    · have hp2 : G33 (.p1 (so A) (so B) i k (tabP A.length B.length (fun _ => true) (lcc A B)) (so out)) = G33 (.p2 (so A) (so B) i k (tabP A.length B.length (fun _ => true) (lcc A B)) (so out)) := by
        rw [G33.eq_1, ls_so, ls_so]
        by_cases h1 : i < A.length
        · rw [dti (by omega)]
        · rw [dfi (by omega), dti (by omega)]
      rw [hp2]
      have ih : ∀ (i' k' : Nat) (c : T54), i ≤ i' → k ≤ k' → i + k < i' + k' → i' ≤ A.length → k' ≤ B.length → G33 (.p1 (so A) (so B) i' k' (tabP A.length B.length (fun _ => true) (lcc A B)) (so (out ++ [c]))) = some (so (out ++ [c] ++ df (A.drop i') (B.drop k')), 0) := fun i' k' c g1 g2 g3 g4 g5 => by
        match N, h with
        | 0, h => omega
        | N + 1, h => exact g33 N i' k' (out ++ [c]) (by omega) g4 g5 (by rw [List.length_append, List.length_singleton]; omega)
      have go : (out.length + 1) * 32 ≤ 140737488355328 := by omega
      have hadd : k < B.length → ∀ y, B[k]? = some y → G33 (.p4 (so A) (so B) i k (tabP A.length B.length (fun _ => true) (lcc A B)) (so out)) = some (so (out ++ [ck 3 y] ++ df (A.drop i) (B.drop (k + 1))), 0) := fun hkb y hy => by
        rw [G33.eq_4, ls_so, ls_so, ixs hy, sm, if_pos (by simpa [ls] using go), w2]
        exact (by rw [show sapp (so out) (ls (some [({ Kind := 3, Line := y } : T54)])) = so (out ++ [ck 3 y]) from sapp_so _ _]; exact ih i (k + 1) _ (by omega) (by omega) (by omega) hi hkb)
      have hdrop : i < A.length → ∀ x, A[i]? = some x → lcc A B (i + 1) k = lcc A B i k → G33 (.p3 (so A) (so B) i k (tabP A.length B.length (fun _ => true) (lcc A B)) (so out)) = some (so (out ++ [ck 2 x] ++ df (A.drop (i + 1)) (B.drop k)), 0) := fun hia x hx he => by
        rw [G33.eq_3, ls_so, ls_so, dti (by omega), w1, lcc_tab A B hA hB (k := k) (by omega), sm, ls_some, row_ix hk, sm, lcc_tab A B hA hB (k := k) hi, sm, ls_some, row_ix hk, sm, ti (by simp [he]), ixs hx, sm, if_pos (by simpa [ls] using go)]
        exact (by rw [show sapp (so out) (ls (some [({ Kind := 2, Line := x } : T54)])) = so (out ++ [ck 2 x]) from sapp_so _ _]; exact ih (i + 1) k _ (by omega) (by omega) (by omega) hia hk)
      have hstay : (i < A.length → lcc A B (i + 1) k ≠ lcc A B i k) → G33 (.p3 (so A) (so B) i k (tabP A.length B.length (fun _ => true) (lcc A B)) (so out)) = G33 (.p4 (so A) (so B) i k (tabP A.length B.length (fun _ => true) (lcc A B)) (so out)) := fun he => by
        rw [G33.eq_3, ls_so]
        by_cases hia : i < A.length
        · rw [dti (by omega), w1, lcc_tab A B hA hB (k := k) (by omega), sm, ls_some, row_ix hk, sm, lcc_tab A B hA hB (k := k) hi, sm, ls_some, row_ix hk, sm, fi_ (by simpa using he hia)]
        · rw [dfi (by omega)]
      rw [G33.eq_2, ls_so, ls_so]
      by_cases hia : i < A.length
      · obtain ⟨x, hx⟩ := get_ex A hia
        rw [dti (by omega)]
        by_cases hkb : k < B.length
        · obtain ⟨y, hy⟩ := get_ex B hkb
          rw [dti (by omega), ixs hx, sm, ixs hy, sm, drop_cons hx, drop_cons hy, df_cc, ← drop_cons hx, ← drop_cons hy]
          by_cases hxy : x = y
          · rw [dti hxy, if_pos hxy, sm, ls_so, if_pos (by simpa [ls] using go), w1, w2, show sapp (so out) (ls (some [({ Kind := 1, Line := x } : T54)])) = so (out ++ [ck 1 x]) from sapp_so _ _, ih (i + 1) (k + 1) _ (by omega) (by omega) (by omega) hia hkb]
            simp
          · rw [dfi hxy, if_neg hxy]
            by_cases he : lcs (A.drop (i + 1)) (B.drop k) = lcs (A.drop i) (B.drop k)
            · rw [if_pos he, hdrop hia x hx (by simp [lcc, he])]
              simp
            · rw [if_neg he, hstay (fun _ => by simp only [lcc]; omega), hadd hkb y hy]
              simp
        · have hkb' : k = B.length := by omega
          subst hkb'
          rw [dfi (by omega), hdrop hia x hx (by rw [lcc_last, lcc_last]), drop_cons hx, List.drop_length, df_cn]
          simp
      · have hia' : i = A.length := by omega
        have hkb : k < B.length := by omega
        obtain ⟨y, hy⟩ := get_ex B hkb
        subst hia'
        rw [dfi (by omega), hstay (fun h' => by omega), hadd hkb y hy, drop_cons hy, List.drop_length, df_nc]
        simp

theorem g34 : ∀ (N i k : Nat) (out : List T54), (A.length - i) + (B.length - k) ≤ N → i ≤ A.length → k ≤ B.length → out.length + (A.length - i) + (B.length - k) ≤ 8192 → G34 (.p1 (so A) (so B) i k (tabP A.length B.length (fun _ => true) (lcc A B)) (so out)) = some (so (out ++ df (A.drop i) (B.drop k)), 0)
  | N, i, k, out, h, hi, hk, ho => by
    have w1 : IntKind.wrap .i64 ((i : Int) + 1) = ((i + 1 : Nat) : Int) := wn1 i (by omega)
    have w2 : IntKind.wrap .i64 ((k : Int) + 1) = ((k + 1 : Nat) : Int) := wn1 k (by omega)
    by_cases hd : i = A.length ∧ k = B.length
    · obtain ⟨rfl, rfl⟩ := hd
      rw [G34.eq_1, ls_so, ls_so, dfi (by omega), dfi (by omega), List.drop_length, List.drop_length, df_nn, List.append_nil]
    · have hp2 : G34 (.p1 (so A) (so B) i k (tabP A.length B.length (fun _ => true) (lcc A B)) (so out)) = G34 (.p2 (so A) (so B) i k (tabP A.length B.length (fun _ => true) (lcc A B)) (so out)) := by
        rw [G34.eq_1, ls_so, ls_so]
        by_cases h1 : i < A.length
        · rw [dti (by omega)]
        · rw [dfi (by omega), dti (by omega)]
      rw [hp2]
      have ih : ∀ (i' k' : Nat) (c : T54), i ≤ i' → k ≤ k' → i + k < i' + k' → i' ≤ A.length → k' ≤ B.length → G34 (.p1 (so A) (so B) i' k' (tabP A.length B.length (fun _ => true) (lcc A B)) (so (out ++ [c]))) = some (so (out ++ [c] ++ df (A.drop i') (B.drop k')), 0) := fun i' k' c g1 g2 g3 g4 g5 => by
        match N, h with
        | 0, h => omega
        | N + 1, h => exact g34 N i' k' (out ++ [c]) (by omega) g4 g5 (by rw [List.length_append, List.length_singleton]; omega)
      have go : (out.length + 1) * 32 ≤ 140737488355328 := by omega
      have hadd : k < B.length → ∀ y, B[k]? = some y → G34 (.p4 (so A) (so B) i k (tabP A.length B.length (fun _ => true) (lcc A B)) (so out)) = some (so (out ++ [ck 3 y] ++ df (A.drop i) (B.drop (k + 1))), 0) := fun hkb y hy => by
        rw [G34.eq_4, ls_so, ls_so, ixs hy, sm, if_pos (by simpa [ls] using go), w2]
        exact (by rw [show sapp (so out) (ls (some [({ Kind := 3, Line := y } : T54)])) = so (out ++ [ck 3 y]) from sapp_so _ _]; exact ih i (k + 1) _ (by omega) (by omega) (by omega) hi hkb)
      have hdrop : i < A.length → ∀ x, A[i]? = some x → lcc A B (i + 1) k = lcc A B i k → G34 (.p3 (so A) (so B) i k (tabP A.length B.length (fun _ => true) (lcc A B)) (so out)) = some (so (out ++ [ck 2 x] ++ df (A.drop (i + 1)) (B.drop k)), 0) := fun hia x hx he => by
        rw [G34.eq_3, ls_so, ls_so, dti (by omega), w1, lcc_tab A B hA hB (k := k) (by omega), sm, ls_some, row_ix hk, sm, lcc_tab A B hA hB (k := k) hi, sm, ls_some, row_ix hk, sm, ti (by simp [he]), ixs hx, sm, if_pos (by simpa [ls] using go)]
        exact (by rw [show sapp (so out) (ls (some [({ Kind := 2, Line := x } : T54)])) = so (out ++ [ck 2 x]) from sapp_so _ _]; exact ih (i + 1) k _ (by omega) (by omega) (by omega) hia hk)
      have hstay : (i < A.length → lcc A B (i + 1) k ≠ lcc A B i k) → G34 (.p3 (so A) (so B) i k (tabP A.length B.length (fun _ => true) (lcc A B)) (so out)) = G34 (.p4 (so A) (so B) i k (tabP A.length B.length (fun _ => true) (lcc A B)) (so out)) := fun he => by
        rw [G34.eq_3, ls_so]
        by_cases hia : i < A.length
        · rw [dti (by omega), w1, lcc_tab A B hA hB (k := k) (by omega), sm, ls_some, row_ix hk, sm, lcc_tab A B hA hB (k := k) hi, sm, ls_some, row_ix hk, sm, fi_ (by simpa using he hia)]
        · rw [dfi (by omega)]
      rw [G34.eq_2, ls_so, ls_so]
      by_cases hia : i < A.length
      · obtain ⟨x, hx⟩ := get_ex A hia
        rw [dti (by omega)]
        by_cases hkb : k < B.length
        · obtain ⟨y, hy⟩ := get_ex B hkb
          rw [dti (by omega), ixs hx, sm, ixs hy, sm, drop_cons hx, drop_cons hy, df_cc, ← drop_cons hx, ← drop_cons hy]
          by_cases hxy : x = y
          · rw [dti hxy, if_pos hxy, sm, ls_so, if_pos (by simpa [ls] using go), w1, w2, show sapp (so out) (ls (some [({ Kind := 1, Line := x } : T54)])) = so (out ++ [ck 1 x]) from sapp_so _ _, ih (i + 1) (k + 1) _ (by omega) (by omega) (by omega) hia hkb]
            simp
          · rw [dfi hxy, if_neg hxy]
            by_cases he : lcs (A.drop (i + 1)) (B.drop k) = lcs (A.drop i) (B.drop k)
            · rw [if_pos he, hdrop hia x hx (by simp [lcc, he])]
              simp
            · rw [if_neg he, hstay (fun _ => by simp only [lcc]; omega), hadd hkb y hy]
              simp
        · have hkb' : k = B.length := by omega
          subst hkb'
          rw [dfi (by omega), hdrop hia x hx (by rw [lcc_last, lcc_last]), drop_cons hx, List.drop_length, df_cn]
          simp
      · have hia' : i = A.length := by omega
        have hkb : k < B.length := by omega
        obtain ⟨y, hy⟩ := get_ex B hkb
        subst hia'
        rw [dfi (by omega), hstay (fun h' => by omega), hadd hkb y hy, drop_cons hy, List.drop_length, df_nc]
        simp
end

/-- What Diff answers. -/
def dif (a b : Str) : Sl T54 × Int := if (spl a).length > 4096 ∨ (spl b).length > 4096 then (none, 3) else (so (df (spl a) (spl b)), 0)
theorem f33 (a b : Str) (ha : a.length ≤ 100000000000) (hb : b.length ≤ 100000000000) : F33 a b = some (dif a b) := by
  unfold F33 dif
  rw [f14 a ha, sm, f14 b hb, sm, ls_so, ls_so]
  by_cases h1 : (spl a).length > 4096
  · rw [dti (by omega), if_pos (.inl h1)]
  · rw [dfi (by omega)]
    by_cases h2 : (spl b).length > 4096
    · rw [dti (by omega), if_pos (.inr h2)]
    · rw [dfi (by omega), if_neg (by omega), f51 _ _ (by omega) (by omega), sm]
      have := g33 (spl a) (spl b) (by omega) (by omega) _ 0 0 [] (Nat.le_refl _) (by omega) (by omega) (by simp; omega)
      simpa [so] using this
theorem f34 (a b : Str) (ha : a.length ≤ 100000000000) (hb : b.length ≤ 100000000000) : F34 a b = some (dif a b) := by
  unfold F34 dif
  rw [f16 a ha, sm, f16 b hb, sm, ls_so, ls_so]
  by_cases h1 : (spl a).length > 4096
  · rw [dti (by omega), if_pos (.inl h1)]
  · rw [dfi (by omega)]
    by_cases h2 : (spl b).length > 4096
    · rw [dti (by omega), if_pos (.inr h2)]
    · rw [dfi (by omega), if_neg (by omega), f52 _ _ (by omega) (by omega), sm]
      have := g34 (spl a) (spl b) (by omega) (by omega) _ 0 0 [] (Nat.le_refl _) (by omega) (by omega) (by simp; omega)
      simpa [so] using this

/-! ### What changes do -/
def okC (c : T54) : Bool := decide (1 ≤ c.Kind ∧ c.Kind ≤ 3)
def wasL (l : List T54) : List Ln := (l.filter fun c => c.Kind != 3).map (·.Line)
def nowL (l : List T54) : List Ln := (l.filter fun c => c.Kind != 2).map (·.Line)
def apl (s : Str) (l : List T54) : Str × Int := if l.all okC = true ∧ wasL l = spl s then (jn (nowL l), 0) else ([], 11)
theorem wasL_cons (c : T54) (l : List T54) : wasL (c :: l) = if c.Kind != 3 then c.Line :: wasL l else wasL l := by
  unfold wasL; rw [List.filter_cons]; split <;> rfl
theorem nowL_cons (c : T54) (l : List T54) : nowL (c :: l) = if c.Kind != 2 then c.Line :: nowL l else nowL l := by
  unfold nowL; rw [List.filter_cons]; split <;> rfl
theorem g53 (a b : Sl Ln) (h : (ls a).length = (ls b).length) (hl : (ls a).length ≤ 1000000000000) : ∀ (n k : Nat), n + k = (ls a).length → G53 (.p1 a b ((ls a).length : Int) k) = some (decide ((ls a).drop k = (ls b).drop k))
  | 0, k, hk => by
    have e : (ls a).drop k = (ls b).drop k := by rw [List.drop_eq_nil_of_le (by omega), List.drop_eq_nil_of_le (by omega)]
    rw [G53.eq_1, dfi (by omega)]; simp [e]
  | n + 1, k, hk => by
    obtain ⟨x, hx⟩ := get_ex (ls a) (show k < (ls a).length by omega)
    obtain ⟨y, hy⟩ := get_ex (ls b) (show k < (ls b).length by omega)
    rw [G53.eq_1, dti (by omega), ixs hx, sm, ixs hy, sm, drop_cons hx, drop_cons hy]
    by_cases e : x = y
    · rw [fi_ (by simp [e]), wn1 _ (by omega), g53 a b h hl n (k + 1) (by omega)]; simp [e]
    · rw [ti (by simp [e])]; simp [e]
theorem f53 (a b : Sl Ln) (hl : (ls a).length ≤ 1000000000000) : F53 a b = some (decide (ls a = ls b)) := by
  unfold F53
  by_cases h : (ls a).length = (ls b).length
  · rw [fi_ (by simp [h])]
    have := g53 a b h hl _ 0 (Nat.add_zero _)
    simpa using this
  · rw [ti (by simp; omega)]
    have : ls a ≠ ls b := fun e => h (by rw [e])
    simp [this]
theorem g37 (a b : Sl T54) (h : (ls a).length = (ls b).length) (hl : (ls a).length ≤ 1000000000000) : ∀ (n k : Nat), n + k = (ls a).length → G37 (.p1 a b ((ls a).length : Int) k) = some (decide ((ls a).drop k = (ls b).drop k))
  | 0, k, hk => by
    have e : (ls a).drop k = (ls b).drop k := by rw [List.drop_eq_nil_of_le (by omega), List.drop_eq_nil_of_le (by omega)]
    rw [G37.eq_1, dfi (by omega)]; simp [e]
  | n + 1, k, hk => by
    obtain ⟨x, hx⟩ := get_ex (ls a) (show k < (ls a).length by omega)
    obtain ⟨y, hy⟩ := get_ex (ls b) (show k < (ls b).length by omega)
    rw [G37.eq_1, dti (by omega), ixs hx, sm, ixs hy, sm, drop_cons hx, drop_cons hy]
    by_cases e : x = y
    · rw [fi_ (by simp [e]), wn1 _ (by omega), g37 a b h hl n (k + 1) (by omega)]; simp [e]
    · rw [ti (by simp [e])]; simp [e]
theorem f37 (a b : Sl T54) (hl : (ls a).length ≤ 1000000000000) : F37 a b = some (decide (ls a = ls b)) := by
  unfold F37
  by_cases h : (ls a).length = (ls b).length
  · rw [fi_ (by simp [h])]
    have := g37 a b h hl _ 0 (Nat.add_zero _)
    simpa using this
  · rw [ti (by simp; omega)]
    have : ls a ≠ ls b := fun e => h (by rw [e])
    simp [this]

section
variable (s : Str) (hs : s.length ≤ 100000000000) (o : Sl T54) (l : List T54) (ho : ls o = l) (hl : l.length ≤ 100000000000) (hj : (jn (nowL l)).length ≤ 10000000000000)
include hs ho hl hj
theorem g35 : ∀ (n k : Nat) (w m : List Ln), n + k = l.length → w = wasL (l.take k) → m = nowL (l.take k) → (l.take k).all okC = true → w.length ≤ k → m.length ≤ k → G35 (.p1 s o (l.length : Int) k (so w) (so m)) = some (apl s l)
  | 0, k, w, m, h, hw, hm, hk, hwl, hml => by
    have e : l.take k = l := List.take_of_length_le (by omega)
    rw [e] at hw hm hk
    rw [G35.eq_1, dfi (by omega), f14 s hs, sm, f53 _ _ (by rw [ls_so]; omega), sm, ls_so, ls_so, hw]
    unfold apl
    by_cases he : wasL l = spl s
    · rw [fi_ (by simp [he]), f19 _ (by rw [ls_so]; omega) (by rw [ls_so, hm]; exact hj), sm, ls_so, hm, if_pos ⟨hk, he⟩]
    · rw [ti (by simp [he]), if_neg (fun h' => he h'.2)]
  | n + 1, k, w, m, h, hw, hm, hk, hwl, hml => by
    obtain ⟨c, hc⟩ := get_ex l (show k < l.length by omega)
    have ht := take_snoc hc
    rw [G35.eq_1, dti (by omega), ho, ixs hc, sm]
    by_cases h1 : c.Kind < 1
    · rw [dti h1]
      unfold apl
      have : ¬ (l.all okC = true) := fun h' => by
        have := List.all_eq_true.1 h' c (List.mem_of_getElem? hc)
        simp [okC] at this; omega
      rw [if_neg (fun h' => this h'.1)]
    rw [dfi h1]
    by_cases h2 : c.Kind > 3
    · rw [dti h2]
      unfold apl
      have : ¬ (l.all okC = true) := fun h' => by
        have := List.all_eq_true.1 h' c (List.mem_of_getElem? hc)
        simp [okC] at this; omega
      rw [if_neg (fun h' => this h'.1)]
    rw [dfi h2]
    have hk' : (l.take (k + 1)).all okC = true := by rw [ht, List.all_append, hk]; simp [okC]; omega
    have hw' : wasL (l.take (k + 1)) = w ++ (if c.Kind != 3 then [c.Line] else []) := by
      rw [ht, hw]; unfold wasL; rw [List.filter_append, List.map_append, List.filter_cons]; split <;> rfl
    have hm' : nowL (l.take (k + 1)) = m ++ (if c.Kind != 2 then [c.Line] else []) := by
      rw [ht, hm]; unfold nowL; rw [List.filter_append, List.map_append, List.filter_cons]; split <;> rfl
    have step : ∀ w', w' = wasL (l.take (k + 1)) → w'.length ≤ k + 1 → G35 (.p2 s o (l.length : Int) k (so w') (so m) c) = some (apl s l) := fun w' hw2 hwl2 => by
      rw [G35.eq_2, wn1 _ (by omega)]
      by_cases h3 : (c.Kind != 2) = true
      · rw [ti h3, ls_so, if_pos (by simp [ls]; omega)]
        rw [if_pos h3] at hm'
        rw [show sapp (so m) (ls (some [c.Line])) = so (m ++ [c.Line]) from sapp_so _ _]
        exact g35 n (k + 1) w' _ (by omega) hw2 hm'.symm hk' (by omega) (by simp; omega)
      · have h3' : (c.Kind != 2) = false := by simpa using h3
        rw [fi_ h3']
        rw [if_neg h3, List.append_nil] at hm'
        exact g35 n (k + 1) w' m (by omega) hw2 hm'.symm hk' (by omega) (by omega)
    by_cases h3 : (c.Kind != 3) = true
    · rw [ti h3, ls_so, if_pos (by simp [ls]; omega)]
      rw [if_pos h3] at hw'
      rw [show sapp (so w) (ls (some [c.Line])) = so (w ++ [c.Line]) from sapp_so _ _]
      exact step _ hw'.symm (by simp; omega)
    · have h3' : (c.Kind != 3) = false := by simpa using h3
      rw [fi_ h3']
      rw [if_neg h3, List.append_nil] at hw'
      exact step w hw'.symm (by omega)
theorem f35 : F35 s o = some (apl s l) := by
  unfold F35
  rw [ho]
  exact g35 s hs o l ho hl hj l.length 0 [] [] (by omega) rfl rfl rfl (by simp) (by simp)
/-- The reference takes the lines away one by one. -/
theorem g36 : ∀ (n k : Nat) (a : Sl Ln) (m : List Ln), n + k = l.length → wasL (l.take k) ++ ls a = spl s → m = nowL (l.take k) → (l.take k).all okC = true → m.length ≤ k → (ls a).length ≤ 100000000000 → G36 (.p1 a o (l.length : Int) k (so m)) = some (apl s l)
  | 0, k, a, m, h, hw, hm, hk, hml, hal => by
    have e : l.take k = l := List.take_of_length_le (by omega)
    rw [e] at hw hm hk
    rw [G36.eq_1, dfi (by omega)]
    unfold apl
    by_cases he : ls a = []
    · rw [he, List.append_nil] at hw
      rw [dfi (by simp [he]), f20 _ (by rw [ls_so]; omega) (by rw [ls_so, hm]; exact hj), sm, ls_so, hm, if_pos ⟨hk, hw⟩]
    · have hp : 0 < (ls a).length := List.length_pos_iff.2 he
      rw [dti (by omega), if_neg (fun h' => he (by
        have := congrArg List.length hw
        rw [h'.2, List.length_append] at this
        exact List.eq_nil_of_length_eq_zero (by omega)))]
  | n + 1, k, a, m, h, hw, hm, hk, hml, hal => by
    obtain ⟨c, hc⟩ := get_ex l (show k < l.length by omega)
    have ht := take_snoc hc
    have hsp : l = l.take k ++ c :: l.drop (k + 1) := by rw [← drop_cons hc, List.take_append_drop]
    rw [G36.eq_1, dti (by omega), ho, ixs hc, sm]
    have hw' : wasL (l.take (k + 1)) = wasL (l.take k) ++ (if c.Kind != 3 then [c.Line] else []) := by
      rw [ht]; unfold wasL; rw [List.filter_append, List.map_append, List.filter_cons]; split <;> rfl
    have hm' : nowL (l.take (k + 1)) = m ++ (if c.Kind != 2 then [c.Line] else []) := by
      rw [ht, hm]; unfold nowL; rw [List.filter_append, List.map_append, List.filter_cons]; split <;> rfl
    have p3 : ∀ a' : Sl Ln, (1 ≤ c.Kind ∧ c.Kind ≤ 3) → wasL (l.take (k + 1)) ++ ls a' = spl s → (ls a').length ≤ 100000000000 → G36 (.p3 a' o (l.length : Int) k (so m) c) = some (apl s l) := fun a' hc13 ha' hal' => by
      have hk' : (l.take (k + 1)).all okC = true := by rw [ht, List.all_append, hk]; simp [okC]; omega
      rw [G36.eq_3, wn1 _ (by omega)]
      by_cases h3 : (c.Kind != 2) = true
      · rw [ti h3, ls_so, if_pos (by simp [ls]; omega)]
        rw [if_pos h3] at hm'
        rw [show sapp (so m) (ls (some [c.Line])) = so (m ++ [c.Line]) from sapp_so _ _]
        exact g36 n (k + 1) a' _ (by omega) ha' hm'.symm hk' (by simp; omega) hal'
      · have h3' : (c.Kind != 2) = false := by simpa using h3
        rw [fi_ h3']
        rw [if_neg h3, List.append_nil] at hm'
        exact g36 n (k + 1) a' m (by omega) ha' hm'.symm hk' (by omega) hal'
    have p2 : (c.Kind = 1 ∨ c.Kind = 2) → G36 (.p2 a o (l.length : Int) k (so m) c) = some (apl s l) := fun h12 => by
      have h3 : (c.Kind != 3) = true := by simp; omega
      rw [if_pos h3] at hw'
      have bad : ¬ (∃ r, ls a = c.Line :: r) → (([] : Str), (11 : Int)) = apl s l := fun hb => by
        unfold apl
        rw [if_neg]
        intro h'
        have h4 := h'.2
        have h5 : wasL l = wasL (l.take k) ++ (c.Line :: wasL (l.drop (k + 1))) := by
          conv => lhs; rw [hsp]
          unfold wasL; rw [List.filter_append, List.map_append, List.filter_cons, if_pos h3]; rfl
        rw [h5, ← hw] at h4
        exact hb ⟨_, (List.append_cancel_left h4).symm⟩
      rw [G36.eq_2]
      cases ea : ls a with
      | nil =>
        rw [ti (by simp), bad (fun ⟨r, hr⟩ => by rw [ea] at hr; cases hr)]
      | cons x r =>
        rw [fi_ (by simp; omega), ix, if_pos (by omega)]
        simp only [Int.toNat_zero, List.getElem?_cons_zero]
        rw [sm]
        by_cases hx : x = c.Line
        · rw [fi_ (by simp [hx])]
          have hcut : ∃ w, scut a 1 ((x :: r).length : Int) = some w ∧ ls w = r := by
            cases a with
            | none => simp [ls] at ea
            | some l' =>
              simp only [ls, Option.getD_some] at ea
              subst ea
              refine ⟨some r, ?_, rfl⟩
              simp [scut]; omega
          obtain ⟨w, hw1, hw2⟩ := hcut
          rw [hw1, sm]
          refine p3 w (by omega) ?_ ?_
          · rw [hw', hw2, ← hw, ea, hx]; simp
          · rw [hw2]; rw [ea] at hal; simp at hal; omega
        · rw [ti (by simp [hx]), bad (fun ⟨r', hr⟩ => by rw [ea] at hr; cases hr; exact hx rfl)]
    by_cases h1 : c.Kind = 1
    · rw [ti (by simp [h1])]; exact p2 (.inl h1)
    rw [fi_ (by simpa using h1)]
    by_cases h2 : c.Kind = 2
    · rw [ti (by simp [h2])]; exact p2 (.inr h2)
    rw [fi_ (by simpa using h2)]
    by_cases h3 : c.Kind = 3
    · rw [ti (by simp [h3])]
      refine p3 a (by omega) ?_ hal
      rw [hw', if_neg (by simp [h3]), List.append_nil]; exact hw
    · rw [fi_ (by simpa using h3)]
      unfold apl
      have : ¬ (l.all okC = true) := fun h' => by
        have := List.all_eq_true.1 h' c (List.mem_of_getElem? hc)
        simp [okC] at this; omega
      rw [if_neg (fun h' => this h'.1)]
theorem f36 (hsp : (spl s).length ≤ 100000000000) : F36 s o = some (apl s l) := by
  unfold F36
  rw [f16 s hs, sm, ho]
  exact g36 s hs o l ho hl hj l.length 0 (so (spl s)) [] (by omega) (by rw [ls_so]; rfl) rfl rfl (by simp) (by rw [ls_so]; exact hsp)
end
end Go.Proofs.YtllhdbdbdblimaaDoor

/-!
  Lines: numerals, counts of changes, hunks.
-/
namespace Go.Proofs.YtllhdbdbdblimaaDoor
open Go AW
set_option linter.unusedVariables false
set_option linter.unusedSimpArgs false
set_option linter.unusedSectionVars false

def dd (n : Nat) : Str := Lib.decDigits n
theorem dd_len (n : Nat) (h : n ≤ 1000000000) : (dd n).length ≤ 21 := by
  have := Lib.itoa_length_le (n : Int) (by omega) (by omega)
  rwa [Lib.itoa_nonneg] at this
theorem itoa_dd (n : Nat) (h : n ≤ 1000000000) : itoaF (n : Int) = some (dd n) := by
  unfold itoaF
  rw [if_pos (by omega), Lib.itoa_nonneg]; rfl
theorem u8of (u : Nat) (h : u < 10) : toBs (ls (some ([IntKind.wrap .u8 (IntKind.wrap .i64 (48 + (u : Int)))] : List Int))) = [UInt8.ofNat (48 + u)] := by
  have : ∀ u : Fin 10, toBs (ls (some ([IntKind.wrap .u8 (IntKind.wrap .i64 (48 + ((u : Nat) : Int)))] : List Int))) = [UInt8.ofNat (48 + (u : Nat))] := by decide +kernel
  exact this ⟨u, h⟩
theorem f64 : ∀ (N n : Nat), n ≤ N → n ≤ 1000000000 → F64 (n : Int) = some (dd n)
  | N, n, h, hn => by
    unfold F64
    by_cases h1 : n < 10
    · rw [G64.eq_1, dti (by omega), u8of n h1]
      unfold dd; rw [Lib.decDigits, dif_pos h1]
    · match N, h with
      | 0, h => omega
      | N + 1, h =>
        have e1 : IntKind.wrap .i64 (Int.tdiv (n : Int) 10) = ((n / 10 : Nat) : Int) := by
          rw [show Int.tdiv (n : Int) 10 = ((n / 10 : Nat) : Int) from rfl]; exact wn _ (by omega)
        have e2 : Int.tmod (n : Int) 10 = ((n % 10 : Nat) : Int) := rfl
        have i1 := f64 N (n / 10) (by omega) (by omega)
        have i2 := f64 N (n % 10) (by omega) (by omega)
        have l1 := dd_len (n / 10) (by omega)
        have l2 := dd_len (n % 10) (by omega)
        unfold F64 at i1 i2
        rw [G64.eq_1, dfi (by omega), e1, e2, i1, sm, i2, sm, if_pos (by omega)]
        congr 1
        unfold dd
        conv => rhs; rw [Lib.decDigits, dif_neg h1]
        congr 1
        rw [Lib.decDigits, dif_pos (by omega)]

def plc (k n : Nat) : Str := if n = 0 then dd k ++ [44, 48] else if n = 1 then dd (k + 1) else dd (k + 1) ++ [44] ++ dd n
theorem plc_len (k n : Nat) (hk : k ≤ 100000000) (hn : n ≤ 100000000) : (plc k n).length ≤ 50 := by
  have h1 := dd_len k (by omega)
  have h2 := dd_len (k + 1) (by omega)
  have h3 := dd_len n (by omega)
  unfold plc
  split
  · simp; omega
  · split
    · omega
    · simp; omega
theorem f48 (k n : Nat) (hk : k ≤ 100000000) (hn : n ≤ 100000000) : F48 (k : Int) (n : Int) = some (plc k n) := by
  have h1 := dd_len k (by omega)
  have h2 := dd_len (k + 1) (by omega)
  have h3 := dd_len n (by omega)
  unfold F48 plc
  by_cases e0 : n = 0
  · subst e0
    rw [ti (by simp), itoa_dd k (by omega), sm, if_pos (by simp; omega), if_pos rfl]
  · rw [fi_ (by simpa using e0), if_neg e0, wn1 _ (by omega)]
    by_cases e1 : n = 1
    · subst e1
      rw [ti (by simp), itoa_dd (k + 1) (by omega), sm, if_pos rfl]
    · rw [fi_ (by simp; omega), if_neg e1, itoa_dd (k + 1) (by omega), sm, if_pos (by simp; omega), itoa_dd n (by omega), sm, if_pos (by simp; omega)]
theorem f59 (k n : Nat) (hk : k ≤ 100000000) (hn : n ≤ 100000000) : F59 (k : Int) (n : Int) = some (plc k n) := by
  have h1 := dd_len k (by omega)
  have h2 := dd_len (k + 1) (by omega)
  have h3 := dd_len n (by omega)
  unfold F59 plc
  by_cases e0 : n = 0
  · subst e0
    rw [ti (by simp), f64 _ k (Nat.le_refl _) (by omega), sm, if_pos (by simp; omega), if_pos rfl]
  · rw [fi_ (by simpa using e0), if_neg e0, wn1 _ (by omega)]
    by_cases e1 : n = 1
    · subst e1
      rw [ti (by simp), f64 _ (k + 1) (Nat.le_refl _) (by omega), sm, if_pos rfl]
    · rw [fi_ (by simp; omega), if_neg e1, f64 _ (k + 1) (Nat.le_refl _) (by omega), sm, if_pos (by simp; omega), f64 _ n (Nat.le_refl _) (by omega), sm, if_pos (by simp; omega)]

/-! ### Counts -/
def cnt (k : Int) (l : List T54) : Nat := (l.filter fun c => c.Kind != k).length
theorem cnt_cons (k : Int) (c : T54) (l : List T54) : cnt k (c :: l) = (if c.Kind != k then 1 else 0) + cnt k l := by
  unfold cnt; rw [List.filter_cons]; split <;> simp <;> omega
theorem cnt_le (k : Int) (l : List T54) : cnt k l ≤ l.length := List.length_filter_le _ _
theorem g49 (but : Int) (o : Sl T54) (l : List T54) (ho : ls o = l) (hl : l.length ≤ 100000000) : ∀ (n k m : Nat), n + k = l.length → m ≤ k → G49 (.p1 but (m : Int) o (l.length : Int) k) = some ((m + cnt but (l.drop k) : Nat) : Int)
  | 0, k, m, h, hm => by
    rw [G49.eq_1, dfi (by omega), List.drop_eq_nil_of_le (by omega)]; rfl
  | n + 1, k, m, h, hm => by
    obtain ⟨c, hc⟩ := get_ex l (show k < l.length by omega)
    rw [G49.eq_1, dti (by omega), ho, ixs hc, sm, drop_cons hc, cnt_cons, wn1 k (by omega)]
    by_cases e : (c.Kind != but) = true
    · rw [ti e, wn1 m (by omega), g49 but o l ho hl n (k + 1) (m + 1) (by omega) (by omega), if_pos e]; congr 2; omega
    · rw [fi_ (by simpa using e), g49 but o l ho hl n (k + 1) m (by omega) (by omega), if_neg e]; congr 2; omega
theorem f49 (but : Int) (o : Sl T54) (hl : (ls o).length ≤ 100000000) : F49 o but = some (cnt but (ls o) : Int) := by
  unfold F49
  have := g49 but o (ls o) rfl hl (ls o).length 0 0 (by omega) (by omega)
  simpa using this
theorem g60 (x y z : Int) (hz : ∀ k : Int, 1 ≤ k → k ≤ 3 → ((k != z) = true ↔ k = x ∨ k = y)) (o : Sl T54) (l : List T54) (ho : ls o = l) (hk3 : l.all okC = true) (hl : l.length ≤ 100000000) : ∀ (n k m : Nat), n + k = l.length → m ≤ k → G60 (.p1 x y (m : Int) o (l.length : Int) k) = some ((m + cnt z (l.drop k) : Nat) : Int)
  | 0, k, m, h, hm => by
    rw [G60.eq_1, dfi (by omega), List.drop_eq_nil_of_le (by omega)]; rfl
  | n + 1, k, m, h, hm => by
    obtain ⟨c, hc⟩ := get_ex l (show k < l.length by omega)
    have hc3 := List.all_eq_true.1 hk3 c (List.mem_of_getElem? hc)
    simp only [okC, decide_eq_true_eq] at hc3
    have hzc := hz c.Kind hc3.1 hc3.2
    rw [G60.eq_1, dti (by omega), ho, ixs hc, sm, drop_cons hc, cnt_cons, wn1 k (by omega)]
    by_cases e : c.Kind = x
    · rw [ti (by simp [e]), wn1 m (by omega), g60 x y z hz o l ho hk3 hl n (k + 1) (m + 1) (by omega) (by omega), if_pos (hzc.2 (.inl e))]; congr 2; omega
    · rw [fi_ (by simpa using e)]
      by_cases e2 : c.Kind = y
      · rw [ti (by simp [e2]), wn1 m (by omega), g60 x y z hz o l ho hk3 hl n (k + 1) (m + 1) (by omega) (by omega), if_pos (hzc.2 (.inr e2))]; congr 2; omega
      · rw [fi_ (by simpa using e2), g60 x y z hz o l ho hk3 hl n (k + 1) m (by omega) (by omega), if_neg (fun h' => by rcases hzc.1 h' with h' | h'; exact e h'; exact e2 h')]; congr 2; omega
theorem f60 (x y z : Int) (hz : ∀ k : Int, 1 ≤ k → k ≤ 3 → ((k != z) = true ↔ k = x ∨ k = y)) (o : Sl T54) (hk3 : (ls o).all okC = true) (hl : (ls o).length ≤ 100000000) : F60 o x y = some (cnt z (ls o) : Int) := by
  unfold F60
  have := g60 x y z hz o (ls o) rfl hk3 hl (ls o).length 0 0 (by omega) (by omega)
  simpa using this
theorem z12 (k : Int) (h1 : 1 ≤ k) (h3 : k ≤ 3) : ((k != 3) = true ↔ k = 1 ∨ k = 2) := by simp; omega
theorem z13 (k : Int) (h1 : 1 ≤ k) (h3 : k ≤ 3) : ((k != 2) = true ↔ k = 1 ∨ k = 3) := by simp; omega

/-! ### Hunks -/
def hk (a : Nat) : List T54 → Nat → Option (Nat × Nat) → List (Nat × Nat)
  | [], _, none => []
  | [], _, some h => [h]
  | c :: cs, p, none => if c.Kind = 1 then hk a cs (p + 1) none else hk a cs (p + 1) (some (p, p + 1))
  | c :: cs, p, some h => if c.Kind = 1 then hk a cs (p + 1) (some h) else if p ≤ h.2 + 2 * a then hk a cs (p + 1) (some (h.1, p + 1)) else h :: hk a cs (p + 1) (some (p, p + 1))
def adj (a n : Nat) (h : Nat × Nat) : Nat × Nat := (h.1 - a, if n < h.2 + a then n else h.2 + a)
def pr (h : Nat × Nat) : Arr 2 Int := ⟨[(h.1 : Int), (h.2 : Int)], rfl⟩
theorem pr_eq (s e : Nat) : aset (aset (Arr.rep 2 0) 0 (s : Int)) 1 (e : Int) = pr (s, e) := rfl
theorem pr_set (h : Nat × Nat) (e : Nat) : aset (pr h) 1 (e : Int) = pr (h.1, e) := rfl
theorem pr_0 (h : Nat × Nat) : ix (pr h).l 0 = some (h.1 : Int) := rfl
theorem pr_1 (h : Nat × Nat) : ix (pr h).l 1 = some (h.2 : Int) := rfl
theorem hk_none (a : Nat) (c : T54) (cs : List T54) (p : Nat) : hk a (c :: cs) p none = if c.Kind = 1 then hk a cs (p + 1) none else hk a cs (p + 1) (some (p, p + 1)) := rfl
theorem hk_some (a : Nat) (c : T54) (cs : List T54) (p : Nat) (h : Nat × Nat) : hk a (c :: cs) p (some h) = if c.Kind = 1 then hk a cs (p + 1) (some h) else if p ≤ h.2 + 2 * a then hk a cs (p + 1) (some (h.1, p + 1)) else h :: hk a cs (p + 1) (some (p, p + 1)) := rfl
theorem hk_far (a : Nat) : ∀ (l : List T54) (p : Nat) (h : Nat × Nat), h.2 + 2 * a < p → hk a l p (some h) = h :: hk a l p none
  | [], p, h, hp => rfl
  | c :: cs, p, h, hp => by
    rw [hk_some, hk_none]
    split
    · exact hk_far a cs (p + 1) h (by omega)
    · rw [if_neg (by omega)]
theorem hk_skip (a : Nat) (L : List T54) : ∀ (d p : Nat), (∀ j, p ≤ j → j < p + d → ∀ c, L[j]? = some c → c.Kind = 1) → p + d ≤ L.length → hk a (L.drop p) p none = hk a (L.drop (p + d)) (p + d) none
  | 0, p, h, hl => rfl
  | d + 1, p, h, hl => by
    obtain ⟨c, hc⟩ := get_ex L (show p < L.length by omega)
    rw [drop_cons hc, hk_none, if_pos (h p (Nat.le_refl _) (by omega) c hc), hk_skip a L d (p + 1) (fun j h1 h2 => h j (by omega) (by omega)) (by omega)]
    rw [show p + 1 + d = p + (d + 1) by omega]
/-- Hunks lie within the changes, one behind the other's beginning. -/
theorem hk_in (a : Nat) : ∀ (l : List T54) (p : Nat) (cur : Option (Nat × Nat)), (∀ h, cur = some h → h.1 < h.2 ∧ h.2 ≤ p) → ∀ h ∈ hk a l p cur, h.1 < h.2 ∧ h.2 ≤ p + l.length
  | [], p, none, hc, h, hh => by simp [hk] at hh
  | [], p, some h0, hc, h, hh => by
    simp [hk] at hh; subst hh
    have := hc h rfl; simp; omega
  | c :: cs, p, none, hc, h, hh => by
    rw [hk_none] at hh
    split at hh
    · have := hk_in a cs (p + 1) none (fun h e => by cases e) h hh; simp only [List.length_cons]; omega
    · have := hk_in a cs (p + 1) _ (fun h e => by cases e; simp) h hh; simp only [List.length_cons]; omega
  | c :: cs, p, some h0, hc, h, hh => by
    have h1 := hc h0 rfl
    rw [hk_some] at hh
    split at hh
    · have := hk_in a cs (p + 1) _ (fun h e => by cases e; omega) h hh; simp only [List.length_cons]; omega
    · split at hh
      · have := hk_in a cs (p + 1) _ (fun h e => by cases e; simp; omega) h hh; simp only [List.length_cons]; omega
      · rcases List.mem_cons.1 hh with rfl | hh
        · simp only [List.length_cons]; omega
        · have := hk_in a cs (p + 1) _ (fun h e => by cases e; simp) h hh; simp only [List.length_cons]; omega
theorem hk_count (a : Nat) : ∀ (l : List T54) (p : Nat) (cur : Option (Nat × Nat)), (hk a l p cur).length ≤ l.length + 1
  | [], p, none => by simp [hk]
  | [], p, some h => by simp [hk]
  | c :: cs, p, none => by
    have h1 := hk_count a cs (p + 1) none
    have h2 := hk_count a cs (p + 1) (some (p, p + 1))
    rw [hk_none]; simp only [List.length_cons]; split <;> omega
  | c :: cs, p, some h => by
    have h1 := hk_count a cs (p + 1) (some h)
    have h2 := hk_count a cs (p + 1) (some (h.1, p + 1))
    have h3 := hk_count a cs (p + 1) (some (p, p + 1))
    rw [hk_some]; simp only [List.length_cons]
    split
    · omega
    · split
      · omega
      · simp only [List.length_cons]; omega

section
variable (a : Nat) (ha : a ≤ 4096) (L : List T54) (hL : L.length ≤ 10000000)
include ha hL
theorem g47p3 (n : Nat) (hn : n ≤ 10000001) : ∀ (d j : Nat) (X Y : List (Nat × Nat)), d + j = n → X.length = j → Y.length = d → (∀ h ∈ Y, h.1 ≤ 10000000 ∧ h.2 ≤ 10000000) → G47 (.p3 (so L) (a : Int) (n : Int) (j : Int) (so ((X ++ Y).map pr))) = some (so ((X ++ Y.map (adj a L.length)).map pr))
  | 0, j, X, Y, h, hX, hY, hb => by
    have : Y = [] := List.eq_nil_of_length_eq_zero hY
    subst this
    rw [G47.eq_3, dfi (by omega)]; rfl
  | d + 1, j, X, [], h, hX, hY, hb => by simp at hY
  | d + 1, j, X, y :: Y, h, hX, hY, hb => by
    have hy := hb y (by simp)
    have hget : ((X ++ y :: Y).map pr)[j]? = some (pr y) := by
      rw [List.getElem?_map, List.getElem?_append_right (by omega), hX, Nat.sub_self]; rfl
    have w1 : IntKind.wrap .i64 ((y.1 : Int) - (a : Int)) = (y.1 : Int) - (a : Int) := wi _ (by omega) (by omega)
    have w2 : IntKind.wrap .i64 ((y.2 : Int) + (a : Int)) = (y.2 : Int) + (a : Int) := wi _ (by omega) (by omega)
    have e1 : (if (0 : Int) > (y.1 : Int) - (a : Int) then (0 : Int) else (y.1 : Int) - (a : Int)) = ((adj a L.length y).1 : Int) := by
      unfold adj; simp only; split <;> omega
    have e2 : (if (L.length : Int) < (y.2 : Int) + (a : Int) then (L.length : Int) else (y.2 : Int) + (a : Int)) = ((adj a L.length y).2 : Int) := by
      unfold adj; simp only; split <;> split <;> omega
    have hset : vset (so ((X ++ y :: Y).map pr)) (j : Int) (pr (adj a L.length y)) = so (((X ++ [adj a L.length y]) ++ Y).map pr) := by
      have hne : (X ++ y :: Y).map pr ≠ [] := by simp
      have hne2 : ((X ++ [adj a L.length y]) ++ Y).map pr ≠ [] := by simp
      have so_ne : ∀ {α : Type} (l : List α), l ≠ [] → so l = some l := fun l hl => by cases l with | nil => exact absurd rfl hl | cons => rfl
      rw [so_ne _ hne, so_ne _ hne2]
      simp only [vset, Option.map_some, Int.toNat_natCast]
      congr 1
      rw [List.map_append, List.set_append_right _ _ (by simp [hX])]
      simp [hX]
    rw [G47.eq_3, dti (by omega), ls_so, ls_so, ixs hget, sm, if_pos (by omega), pr_0, sm, sm, if_pos (by omega), pr_1, sm, sm, w1, w2, e1, e2, pr_eq, hset, wn1 j (by omega)]
    have := g47p3 n hn d (j + 1) (X ++ [adj a L.length y]) Y (by omega) (by simp [hX]) (by simpa using hY) (fun h hh => hb h (by simp [hh]))
    rw [this]
    simp
theorem g47p1 : ∀ (n p : Nat) (X : List (Nat × Nat)) (cur : Option (Nat × Nat)), n + p = L.length → X.length + cur.toList.length ≤ p → (∀ h ∈ X ++ cur.toList, h.1 < h.2 ∧ h.2 ≤ p) → (cur = none → X = []) → G47 (.p1 (so L) (a : Int) (so L) (L.length : Int) (p : Int) (so ((X ++ cur.toList).map pr))) = some (so ((X ++ hk a (L.drop p) p cur).map (fun h => pr (adj a L.length h))))
  | 0, p, X, cur, h, hc, hb, hx => by
    have e : hk a (L.drop p) p cur = cur.toList := by
      rw [List.drop_eq_nil_of_le (by omega)]; cases cur <;> rfl
    rw [G47.eq_1, dfi (by omega), e, ls_so, List.length_map]
    have := g47p3 a ha L hL (X ++ cur.toList).length (by simp; omega) (X ++ cur.toList).length 0 [] (X ++ cur.toList) (by omega) rfl rfl (fun h hh => by have := hb h hh; omega)
    simp only [List.nil_append] at this
    rw [show ((0 : Nat) : Int) = 0 from rfl] at this
    rw [this, List.map_map]; rfl
  | n + 1, p, X, cur, h, hc, hb, hx => by
    obtain ⟨c, hcp⟩ := get_ex L (show p < L.length by omega)
    have w1 : IntKind.wrap .i64 ((p : Int) + 1) = ((p + 1 : Nat) : Int) := wn1 p (by omega)
    rw [G47.eq_1, dti (by omega), ls_so, ixs hcp, sm, drop_cons hcp, w1]
    by_cases hk1 : c.Kind = 1
    · rw [ti (by simp [hk1]), g47p1 n (p + 1) X cur (by omega) (by omega) (fun h hh => by have := hb h hh; omega) hx]
      cases cur with
      | none => rw [hk_none, if_pos hk1]
      | some h0 => rw [hk_some, if_pos hk1]
    · rw [fi_ (by simpa using hk1)]
      have hp2 : ∀ Z : List (Nat × Nat), Z.length ≤ p → (∀ h ∈ Z, h.1 < h.2 ∧ h.2 ≤ p) → G47 (.p2 (so L) (a : Int) (p : Int) (so L) (L.length : Int) (p : Int) (so (Z.map pr))) = some (so ((Z ++ hk a (L.drop (p + 1)) (p + 1) (some (p, p + 1))).map (fun h => pr (adj a L.length h)))) := fun Z hZ hb2 => by
        rw [G47.eq_2, w1, pr_eq, ls_so, if_pos (by simp [ls]; omega), show sapp (so (Z.map pr)) (ls (some [pr (p, p + 1)])) = so (Z.map pr ++ [pr (p, p + 1)]) from sapp_so _ _]
        have := g47p1 n (p + 1) Z (some (p, p + 1)) (by omega) (by simp; omega) (fun h hh => by
          simp only [Option.toList_some, List.mem_append, List.mem_singleton] at hh
          rcases hh with hh | rfl
          · have := hb2 h hh; omega
          · simp) (fun e => by cases e)
        rw [← this]; simp
      cases cur with
      | none =>
        have hX := hx rfl
        subst hX
        rw [dfi (by simp [ls_so, so, ls]), hk_none, if_neg hk1]
        have := hp2 [] (by simp) (by simp)
        simpa using this
      | some h0 =>
        have hl : ((ls (so ((X ++ (some h0).toList).map pr))).length : Int) = ((X.length + 1 : Nat) : Int) := by rw [ls_so]; simp
        have w3 : IntKind.wrap .i64 (((X.length + 1 : Nat) : Int) - 1) = (X.length : Int) := by rw [wi _ (by omega) (by omega)]; omega
        have hget : ((X ++ (some h0).toList).map pr)[X.length]? = some (pr h0) := by simp
        have hb0 := hb h0 (by simp)
        have w4 : IntKind.wrap .i64 ((p : Int) - (h0.2 : Int)) = (p : Int) - (h0.2 : Int) := wi _ (by omega) (by omega)
        have w5 : IntKind.wrap .i64 (2 * (a : Int)) = 2 * (a : Int) := wi _ (by omega) (by omega)
        rw [hl, dti (by omega), w3, ls_so, ixs hget, sm, if_pos (by omega), pr_1, sm, w4, w5, hk_some, if_neg hk1]
        by_cases hd : p ≤ h0.2 + 2 * a
        · rw [dti (by omega), if_pos hd, sm, if_pos (by omega), pr_set]
          have hset : vset (so ((X ++ (some h0).toList).map pr)) (X.length : Int) (pr (h0.1, p + 1)) = so ((X ++ (some (h0.1, p + 1)).toList).map pr) := by
            have so_ne : ∀ {α : Type} (l : List α), l ≠ [] → so l = some l := fun l hl => by cases l with | nil => exact absurd rfl hl | cons => rfl
            rw [so_ne _ (by simp), so_ne _ (by simp)]
            simp only [vset, Option.map_some, Int.toNat_natCast]
            congr 1
            rw [List.map_append, List.set_append_right _ _ (by simp)]
            simp
          rw [hset]
          refine g47p1 n (p + 1) X (some (h0.1, p + 1)) (by omega) (by simp at hc ⊢; omega) (fun h hh => ?_) (fun e => by cases e)
          simp only [Option.toList_some, List.mem_append, List.mem_singleton] at hh
          rcases hh with hh | rfl
          · have := hb h (by simp [hh]); omega
          · simp; omega
        · rw [dfi (by omega), if_neg hd, hp2 (X ++ (some h0).toList) (by simpa using hc) hb]
          simp
theorem f47 : F47 (so L) (a : Int) = some (so ((hk a L 0 none).map (fun h => pr (adj a L.length h)))) := by
  unfold F47
  rw [ls_so]
  have := g47p1 a ha L hL L.length 0 [] none (by omega) (by simp) (by simp) (fun _ => rfl)
  simpa [so] using this
end
end Go.Proofs.YtllhdbdbdblimaaDoor

/-!
  Lines: unified changes, written by both in the same way.
-/
namespace Go.Proofs.YtllhdbdbdblimaaDoor
open Go AW
set_option linter.unusedVariables false
set_option linter.unusedSimpArgs false
set_option linter.unusedSectionVars false

def mark (c : T54) : Str := if c.Kind = 1 then [32] else if c.Kind = 2 then [45] else [43]
def noNl : Str := [92, 32, 78, 111, 32, 110, 101, 119, 108, 105, 110, 101, 32, 97, 116, 32, 101, 110, 100, 32, 111, 102, 32, 102, 105, 108, 101, 10]
def cbd (c : T54) : Str := mark c ++ c.Line.Text ++ [10] ++ (if c.Line.Whole then [] else noNl)
def body (l : List T54) : Str := (l.map cbd).flatten
theorem body_cons (c : T54) (l : List T54) : body (c :: l) = cbd c ++ body l := by simp [body]
theorem mark_len (c : T54) : (mark c).length = 1 := by unfold mark; split; rfl; split <;> rfl
theorem cbd_len (c : T54) : (cbd c).length ≤ c.Line.Text.length + 30 := by
  unfold cbd
  have := mark_len c
  have h2 : noNl.length = 28 := rfl
  simp only [List.length_append, this]
  split <;> simp <;> omega
def mid (L : List T54) (h : Nat × Nat) : List T54 := (L.take h.2).drop h.1
def hst (L : List T54) (h : Nat × Nat) : Str := ([64, 64, 32, 45] : Str) ++ plc (cnt 3 (L.take h.1)) (cnt 3 (mid L h)) ++ ([32, 43] : Str) ++ plc (cnt 2 (L.take h.1)) (cnt 2 (mid L h)) ++ ([32, 64, 64, 10] : Str) ++ body (mid L h)
theorem body_app (l m : List T54) : body (l ++ m) = body l ++ body m := by simp [body]
theorem mid_body (L : List T54) (h : Nat × Nat) : (body (mid L h)).length ≤ (body L).length := by
  have e : L = L.take h.1 ++ (L.drop h.1) := (List.take_append_drop _ _).symm
  have h1 : (body ((L.take h.2).drop h.1)).length ≤ (body (L.take h.2)).length := by
    conv => rhs; rw [← List.take_append_drop h.1 (L.take h.2), body_app]
    rw [List.length_append]; omega
  have h2 : (body (L.take h.2)).length ≤ (body L).length := by
    conv => rhs; rw [← List.take_append_drop h.2 L, body_app]
    rw [List.length_append]; omega
  unfold mid; omega
theorem scut_so {α : Type} (l : List α) (x y : Nat) (h : x ≤ y) (hy : y ≤ l.length) : ∃ w, scut (so l) (x : Int) (y : Int) = some w ∧ ls w = (l.take y).drop x := by
  cases l with
  | nil =>
    have : x = 0 := by simp at hy; omega
    have h2 : y = 0 := by simpa using hy
    subst this; subst h2
    exact ⟨none, by simp [so, scut], rfl⟩
  | cons z l => exact ⟨some (((z :: l).take y).drop x), by simp only [so, scut]; rw [if_pos ⟨by omega, by omega, by omega⟩]; simp, rfl⟩

section
variable (L : List T54) (hL : L.length ≤ 10000000) (hK : L.all okC = true) (hT : (body L).length ≤ 100000000)
include hL hK hT
theorem okC_sub {l : List T54} (h : ∀ c ∈ l, c ∈ L) : l.all okC = true := List.all_eq_true.2 fun c hc => List.all_eq_true.1 hK c (h c hc)
theorem mid_sub (h : Nat × Nat) : ∀ c ∈ mid L h, c ∈ L := fun c hc => List.mem_of_mem_take (List.mem_of_mem_drop hc)
theorem cnt_mid (k : Int) (h : Nat × Nat) : cnt k (mid L h) ≤ 10000000 ∧ cnt k (L.take h.1) ≤ 10000000 := by
  have h1 := cnt_le k (mid L h)
  have h2 := cnt_le k (L.take h.1)
  have h3 : (mid L h).length ≤ L.length := by unfold mid; simp; omega
  simp at h2
  omega
theorem hst_len (h : Nat × Nat) : (hst L h).length ≤ 100 + 10 + (body L).length := by
  have h1 := cnt_mid L hL hK hT 3 h
  have h2 := cnt_mid L hL hK hT 2 h
  have h3 := plc_len (cnt 3 (L.take h.1)) (cnt 3 (mid L h)) (by omega) (by omega)
  have h4 := plc_len (cnt 2 (L.take h.1)) (cnt 2 (mid L h)) (by omega) (by omega)
  have h5 := mid_body L h
  unfold hst
  simp only [List.length_append, List.length_cons, List.length_nil]
  omega
/-- The reference's hunk. -/
theorem g50 (o : Sl T54) (l : List T54) (ho : ls o = l) (hl3 : l.all okC = true) (hll : l.length ≤ 10000000) : ∀ (n k : Nat) (s : Str), n + k = l.length → s.length + (body (l.drop k)).length ≤ 1000000000000000 → G50 (.p1 s o (l.length : Int) k) = some (s ++ body (l.drop k))
  | 0, k, s, h, hs => by
    rw [G50.eq_1, dfi (by omega), List.drop_eq_nil_of_le (by omega)]; simp [body]
  | n + 1, k, s, h, hs => by
    obtain ⟨c, hc⟩ := get_ex l (show k < l.length by omega)
    have hc3 := List.all_eq_true.1 hl3 c (List.mem_of_getElem? hc)
    simp only [okC, decide_eq_true_eq] at hc3
    rw [drop_cons hc, body_cons] at hs ⊢
    rw [List.length_append] at hs
    have hcb : (cbd c).length = 1 + c.Line.Text.length + 1 + (if c.Line.Whole then [] else noNl).length := by
      unfold cbd; simp only [List.length_append, mark_len, List.length_singleton]
    have p2 : G50 (.p2 (s ++ mark c) o (l.length : Int) k c) = some (s ++ (cbd c ++ body (l.drop (k + 1)))) := by
      have hm := mark_len c
      rw [G50.eq_2, if_pos (by simp only [List.length_append]; omega), if_pos (by simp only [List.length_append, List.length_singleton]; omega), wn1 k (by omega)]
      cases hw : c.Line.Whole with
      | true =>
        rw [fi_ (by rfl), g50 o l ho hl3 hll n (k + 1) _ (by omega) (by simp only [List.length_append, List.length_singleton]; omega)]
        unfold cbd; simp [hw]
      | false =>
        rw [hw] at hcb
        have h28 : noNl.length = 28 := rfl
        simp only [Bool.false_eq_true, if_false, h28] at hcb
        rw [ti (by rfl), if_pos (by simp only [List.length_append, List.length_cons, List.length_nil]; omega), g50 o l ho hl3 hll n (k + 1) _ (by omega) (by simp only [List.length_append, List.length_cons, List.length_nil]; omega)]
        unfold cbd; simp [hw, noNl]
    rw [G50.eq_1, dti (by omega), ho, ixs hc, sm]
    by_cases h1 : c.Kind = 1
    · rw [ti (by simp [h1]), if_pos (by simp only [List.length_singleton]; omega)]
      rw [← p2]; unfold mark; rw [if_pos h1]
    · rw [fi_ (by simpa using h1)]
      by_cases h2 : c.Kind = 2
      · rw [ti (by simp [h2]), if_pos (by simp only [List.length_singleton]; omega)]
        rw [← p2]; unfold mark; rw [if_neg h1, if_pos h2]
      · rw [fi_ (by simpa using h2), if_pos (by simp only [List.length_singleton]; omega)]
        rw [← p2]; unfold mark; rw [if_neg h1, if_neg h2]
theorem f50 (h : Nat × Nat) (h1 : h.1 ≤ h.2) (h2 : h.2 ≤ L.length) : F50 (so L) (h.1 : Int) (h.2 : Int) = some (hst L h) := by
  obtain ⟨w1, e1, q1⟩ := scut_so L 0 h.1 (by omega) (by omega)
  obtain ⟨w2, e2, q2⟩ := scut_so L h.1 h.2 h1 h2
  rw [show ((0 : Nat) : Int) = 0 from rfl] at e1
  rw [List.drop_zero] at q1
  have m1 : ∀ c ∈ L.take h.1, c ∈ L := fun c hc => List.mem_of_mem_take hc
  have k1 := okC_sub L hL hK hT m1
  have k2 := okC_sub L hL hK hT (mid_sub L hL hK hT h)
  have c3 := cnt_mid L hL hK hT 3 h
  have c2 := cnt_mid L hL hK hT 2 h
  have p3 := plc_len (cnt 3 (L.take h.1)) (cnt 3 (mid L h)) (by omega) (by omega)
  have p2 := plc_len (cnt 2 (L.take h.1)) (cnt 2 (mid L h)) (by omega) (by omega)
  have l1 : (ls w1).length ≤ 100000000 := by rw [q1]; simp; omega
  have l2 : (ls w2).length ≤ 100000000 := by rw [q2]; simp; omega
  have hb := mid_body L h
  unfold F50
  rw [e1, sm, f60 1 2 3 z12 w1 (by rw [q1]; exact k1) l1, sm, e2, sm, f60 1 2 3 z12 w2 (by rw [q2]; exact k2) l2, sm, q1, q2]
  rw [show (List.drop h.1 (List.take h.2 L)) = mid L h from rfl, f59 _ _ (by omega) (by omega), sm, if_pos (by simp only [List.length_cons, List.length_nil]; omega), if_pos (by simp only [List.length_append, List.length_cons, List.length_nil]; omega), sm]
  rw [f60 1 3 2 z13 w1 (by rw [q1]; exact k1) l1, sm, sm, f60 1 3 2 z13 w2 (by rw [q2]; exact k2) l2, sm, q1, q2]
  rw [show (List.drop h.1 (List.take h.2 L)) = mid L h from rfl, f59 _ _ (by omega) (by omega), sm, if_pos (by simp only [List.length_append, List.length_cons, List.length_nil]; omega), if_pos (by simp only [List.length_append, List.length_cons, List.length_nil]; omega), sm]
  have := g50 L hL hK hT w2 (mid L h) q2 k2 (by unfold mid; simp; omega) (mid L h).length 0 (([64, 64, 32, 45] : Str) ++ plc (cnt 3 (L.take h.1)) (cnt 3 (mid L h)) ++ ([32, 43] : Str) ++ plc (cnt 2 (L.take h.1)) (cnt 2 (mid L h)) ++ ([32, 64, 64, 10] : Str)) (by omega) (by rw [List.drop_zero]; simp only [List.length_append, List.length_cons, List.length_nil]; omega)
  rw [List.drop_zero] at this
  rw [show ((ls w2).length : Int) = ((mid L h).length : Int) by rw [q2]; rfl]
  exact this

/-- All hunks, one behind the other. -/
def hall (a : Nat) (L : List T54) (l : List (Nat × Nat)) : Str := (l.map fun h => hst L (adj a L.length h)).flatten
theorem hall_len (a : Nat) (l : List (Nat × Nat)) : (hall a L l).length ≤ l.length * (110 + (body L).length) := by
  induction l with
  | nil => simp [hall]
  | cons h l ih =>
    have := hst_len L hL hK hT (adj a L.length h)
    unfold hall at ih ⊢
    rw [List.map_cons, List.flatten_cons, List.length_append, List.length_cons, Nat.add_mul]
    omega
end
theorem hall_cons (a : Nat) (L : List T54) (h : Nat × Nat) (l : List (Nat × Nat)) : hall a L (h :: l) = hst L (adj a L.length h) ++ hall a L l := by simp [hall]
theorem adj_ok {a n : Nat} {h : Nat × Nat} (h1 : h.1 < h.2) (h2 : h.2 ≤ n) : (adj a n h).1 ≤ (adj a n h).2 ∧ (adj a n h).2 ≤ n := by
  unfold adj; simp only; split <;> omega

section
variable (a : Nat) (ha : a ≤ 4096) (L : List T54) (hL : L.length ≤ 100000) (hK : L.all okC = true) (hT : (body L).length ≤ 100000000)
include ha hL hK hT
/-- The reference: from hunk to hunk. -/
theorem g31 : ∀ (N i : Nat) (s : Str), L.length - i ≤ N → i ≤ L.length → s.length + (hall a L (hk a (L.drop i) i none)).length ≤ 10000000000000000 → G31 (.p1 (a : Int) (so L) s (i : Int)) = some (s ++ hall a L (hk a (L.drop i) i none), 0)
  | N, i, s, h, hi, hs => by
    by_cases hiL : i = L.length
    · subst hiL
      rw [G31.eq_1, ls_so, dfi (by omega), List.drop_length]; simp [hk, hall]
    obtain ⟨c, hc⟩ := get_ex L (show i < L.length by omega)
    match N, h with
    | 0, h => omega
    | N + 1, h =>
      rw [G31.eq_1, ls_so, dti (by omega), ixs hc, sm, wn1 i (by omega)]
      by_cases h1 : c.Kind = 1
      · have e : hk a (L.drop i) i none = hk a (L.drop (i + 1)) (i + 1) none := by rw [drop_cons hc, hk_none, if_pos h1]
        rw [e] at hs ⊢
        rw [ti (by simp [h1])]
        exact g31 N (i + 1) s (by omega) (by omega) hs
      · have e : hk a (L.drop i) i none = hk a (L.drop (i + 1)) (i + 1) (some (i, i + 1)) := by rw [drop_cons hc, hk_none, if_neg h1]
        rw [e] at hs ⊢
        rw [fi_ (by simpa using h1)]
        -- the scan
        have w5 : IntKind.wrap .i64 (2 * (a : Int)) = 2 * (a : Int) := wi _ (by omega) (by omega)
        have w6 : IntKind.wrap .i64 (2 * (a : Int) + 1) = 2 * (a : Int) + 1 := wi _ (by omega) (by omega)
        have fin : ∀ (last k : Nat), i ≤ last → last < k → k ≤ L.length → (∀ j, last < j → j < k → ∀ c, L[j]? = some c → c.Kind = 1) → s.length + (hall a L (hk a (L.drop k) k (some (i, last + 1)))).length ≤ 10000000000000000 → hk a (L.drop k) k (some (i, last + 1)) = (i, last + 1) :: hk a (L.drop k) k none → G31 (.p3 (a : Int) (so L) s (i : Int) (last : Int)) = some (s ++ hall a L (hk a (L.drop k) k (some (i, last + 1))), 0) := by
          intro last k h2 h3 h4 h5 h6 h7
          have hsk : hk a (L.drop (last + 1)) (last + 1) none = hk a (L.drop k) k none := by
            have := hk_skip a L (k - (last + 1)) (last + 1) (fun j g1 g2 c hc => h5 j (by omega) (by omega) c hc) (by omega)
            rw [this, show last + 1 + (k - (last + 1)) = k by omega]
          rw [h7, hall_cons] at h6 ⊢
          have w7 : IntKind.wrap .i64 ((i : Int) - (a : Int)) = (i : Int) - (a : Int) := wi _ (by omega) (by omega)
          have w8 : IntKind.wrap .i64 ((last : Int) + (a : Int)) = (last : Int) + (a : Int) := wi _ (by omega) (by omega)
          have w9 : IntKind.wrap .i64 ((last : Int) + (a : Int) + 1) = (last : Int) + (a : Int) + 1 := wi _ (by omega) (by omega)
          have e1 : (if (0 : Int) > (i : Int) - (a : Int) then (0 : Int) else (i : Int) - (a : Int)) = ((adj a L.length (i, last + 1)).1 : Int) := by
            unfold adj; simp only; split <;> omega
          have e2 : (if (L.length : Int) < (last : Int) + (a : Int) + 1 then (L.length : Int) else (last : Int) + (a : Int) + 1) = ((adj a L.length (i, last + 1)).2 : Int) := by
            unfold adj; simp only; split <;> split <;> omega
          have hok := adj_ok (a := a) (n := L.length) (h := (i, last + 1)) (by show i < last + 1; omega) (by show last + 1 ≤ L.length; omega)
          rw [List.length_append] at h6
          rw [G31.eq_3, ls_so, w7, w8, w9, e1, e2, f50 L (by omega) hK (by omega) _ hok.1 hok.2, sm, if_pos (by omega), wn1 last (by omega)]
          have := g31 N (last + 1) (s ++ hst L (adj a L.length (i, last + 1))) (by omega) (by omega) (by rw [List.length_append, hsk]; omega)
          rw [this, hsk, List.append_assoc]
        have scan : ∀ (M last k : Nat), L.length - k ≤ M → i ≤ last → last < k → k ≤ L.length → (∀ j, last < j → j < k → ∀ c, L[j]? = some c → c.Kind = 1) → s.length + (hall a L (hk a (L.drop k) k (some (i, last + 1)))).length ≤ 10000000000000000 → G31 (.p2 (a : Int) (so L) s (i : Int) (last : Int) (k : Int)) = some (s ++ hall a L (hk a (L.drop k) k (some (i, last + 1))), 0) := by
          intro M
          induction M with
          | zero =>
            intro last k hM h2 h3 h4 h5 h6
            have hk' : k = L.length := by omega
            subst hk'
            rw [G31.eq_2, ls_so, dfi (by omega)]
            exact fin last L.length h2 h3 h4 h5 h6 (by rw [List.drop_length]; rfl)
          | succ M ih =>
            intro last k hM h2 h3 h4 h5 h6
            by_cases hkL : k = L.length
            · subst hkL
              rw [G31.eq_2, ls_so, dfi (by omega)]
              exact fin last L.length h2 h3 h4 h5 h6 (by rw [List.drop_length]; rfl)
            obtain ⟨c', hc'⟩ := get_ex L (show k < L.length by omega)
            have w1 : IntKind.wrap .i64 ((k : Int) - (last : Int)) = (k : Int) - (last : Int) := wi _ (by omega) (by omega)
            rw [G31.eq_2, ls_so, dti (by omega), w1, w5, w6]
            by_cases hfar : k ≤ last + 1 + 2 * a
            · rw [dti (by omega), ixs hc', sm, wn1 k (by omega)]
              rw [drop_cons hc', hk_some] at h6 ⊢
              by_cases hk1 : c'.Kind = 1
              · rw [if_pos hk1] at h6 ⊢
                rw [fi_ (by simp [hk1])]
                exact ih last (k + 1) (by omega) h2 (by omega) (by omega) (fun j g1 g2 c hc => by
                  by_cases e : j = k
                  · subst e; rw [hc'] at hc; cases hc; exact hk1
                  · exact h5 j g1 (by omega) c hc) h6
              · rw [if_neg hk1, if_pos hfar] at h6 ⊢
                rw [ti (by simpa using hk1)]
                exact ih k (k + 1) (by omega) (by omega) (by omega) (by omega) (fun j g1 g2 => by omega) h6
            · rw [dfi (by omega)]
              exact fin last k h2 h3 h4 h5 h6 (hk_far a _ k (i, last + 1) (by show last + 1 + 2 * a < k; omega))
        have w1 : IntKind.wrap .i64 ((i : Int) - (i : Int)) = 0 := by rw [wi _ (by omega) (by omega)]; omega
        rw [G31.eq_2, ls_so, dti (by omega), w1, w5, w6, dti (by omega), ixs hc, sm, ti (by simpa using h1), wn1 i (by omega)]
        exact scan (L.length - (i + 1)) i (i + 1) (Nat.le_refl _) (Nat.le_refl _) (by omega) (by omega) (fun j g1 g2 => by omega) hs
/-- The program's hunk: its changes. -/
theorem g30p2 (t52 : Sl (Arr 2 Int)) (t53 t54 : Int) (o : Sl T54) (l : List T54) (ho : ls o = l) (hl3 : l.all okC = true) (hll : l.length ≤ 100000) : ∀ (n k : Nat) (s : Str), n + k = l.length → s.length + (body (l.drop k)).length ≤ 10000000000000 → G30 (.p2 (so L) t52 t53 t54 o (l.length : Int) k s) = G30 (.p1 (so L) t52 t53 (IntKind.wrap .i64 (t54 + 1)) (s ++ body (l.drop k)))
  | 0, k, s, h, hs => by
    rw [G30.eq_2, dfi (by omega), List.drop_eq_nil_of_le (by omega)]; simp [body]
  | n + 1, k, s, h, hs => by
    obtain ⟨c, hc⟩ := get_ex l (show k < l.length by omega)
    have hc3 := List.all_eq_true.1 hl3 c (List.mem_of_getElem? hc)
    simp only [okC, decide_eq_true_eq] at hc3
    rw [drop_cons hc, body_cons] at hs ⊢
    rw [List.length_append] at hs
    have hcb : (cbd c).length = 1 + c.Line.Text.length + 1 + (if c.Line.Whole then [] else noNl).length := by
      unfold cbd; simp only [List.length_append, mark_len, List.length_singleton]
    have hg : ix g0.l c.Kind = some (mark c) := by
      have h123 : c.Kind = 1 ∨ c.Kind = 2 ∨ c.Kind = 3 := by omega
      unfold mark
      rcases h123 with e | e | e <;> rw [e] <;> rfl
    have hm := mark_len c
    rw [G30.eq_2, dti (by omega), ho, ixs hc, sm, if_pos (by omega), hg, sm, if_pos (by omega), if_pos (by simp only [List.length_append, List.length_singleton]; omega), bws _ _ (by simp only [List.length_append, List.length_singleton]; omega), sm, wn1 k (by omega)]
    cases hw : c.Line.Whole with
    | true =>
      rw [fi_ (by rfl)]
      simp only []
      rw [g30p2 t52 t53 t54 o l ho hl3 hll n (k + 1) _ (by omega) (by simp only [List.length_append, List.length_singleton]; omega)]
      unfold cbd; simp [hw]
    | false =>
      rw [hw] at hcb
      have h28 : noNl.length = 28 := rfl
      simp only [Bool.false_eq_true, if_false, h28] at hcb
      rw [ti (by rfl)]
      simp only []
      rw [bws _ _ (by simp only [List.length_append, List.length_cons, List.length_nil]; omega), sm]
      simp only []
      rw [g30p2 t52 t53 t54 o l ho hl3 hll n (k + 1) _ (by omega) (by simp only [List.length_append, List.length_cons, List.length_nil]; omega)]
      unfold cbd; simp [hw, noNl]
theorem g30 (H : List (Nat × Nat)) (hH : H.length ≤ 100001) (hin : ∀ h ∈ H, h.1 ≤ h.2 ∧ h.2 ≤ L.length) : ∀ (n k : Nat) (s : Str), n + k = H.length → s.length + (((H.drop k).map (hst L)).flatten).length ≤ 9000000000000 → G30 (.p1 (so L) (so (H.map pr)) (H.length : Int) k s) = some (s ++ ((H.drop k).map (hst L)).flatten, 0)
  | 0, k, s, h, hs => by
    rw [G30.eq_1, dfi (by omega), bst _ (by omega), sm, List.drop_eq_nil_of_le (by omega)]; simp
  | n + 1, k, s, h, hs => by
    obtain ⟨x, hx⟩ := get_ex H (show k < H.length by omega)
    have hget : (H.map pr)[k]? = some (pr x) := by rw [List.getElem?_map, hx]; rfl
    have hxin := hin x (List.mem_of_getElem? hx)
    obtain ⟨w1, e1, q1⟩ := scut_so L 0 x.1 (by omega) (by omega)
    obtain ⟨w2, e2, q2⟩ := scut_so L x.1 x.2 hxin.1 hxin.2
    rw [show ((0 : Nat) : Int) = 0 from rfl] at e1
    rw [List.drop_zero] at q1
    have k2 := okC_sub L (by omega) hK (by omega) (mid_sub L (by omega) hK (by omega) x)
    have c3 := cnt_mid L (by omega) hK (by omega) 3 x
    have c2 := cnt_mid L (by omega) hK (by omega) 2 x
    have p3 := plc_len (cnt 3 (L.take x.1)) (cnt 3 (mid L x)) (by omega) (by omega)
    have p2 := plc_len (cnt 2 (L.take x.1)) (cnt 2 (mid L x)) (by omega) (by omega)
    have l1 : (ls w1).length ≤ 100000000 := by rw [q1]; simp; omega
    have l2 : (ls w2).length ≤ 100000000 := by rw [q2]; simp; omega
    rw [drop_cons hx, List.map_cons, List.flatten_cons] at hs ⊢
    rw [List.length_append] at hs
    have hhl : (hst L x).length = 4 + (plc (cnt 3 (L.take x.1)) (cnt 3 (mid L x))).length + 2 + (plc (cnt 2 (L.take x.1)) (cnt 2 (mid L x))).length + 4 + (body (mid L x)).length := by
      unfold hst; simp only [List.length_append, List.length_cons, List.length_nil]
    rw [G30.eq_1, dti (by omega), ls_so, ixs hget, sm, if_pos (by omega), pr_0, sm, e1, sm, if_pos (by omega), sm, if_pos (by omega), pr_1, sm, e2, sm]
    rw [f49 3 w1 l1, sm, f49 3 w2 l2, sm, q1, q2, show (List.drop x.1 (List.take x.2 L)) = mid L x from rfl, f48 _ _ (by omega) (by omega), sm]
    rw [f49 2 w1 l1, sm, f49 2 w2 l2, sm, q1, q2, show (List.drop x.1 (List.take x.2 L)) = mid L x from rfl, f48 _ _ (by omega) (by omega), sm]
    rw [if_pos (by simp only [List.length_cons, List.length_nil]; omega), if_pos (by simp only [List.length_append, List.length_cons, List.length_nil]; omega), if_pos (by simp only [List.length_append, List.length_cons, List.length_nil]; omega), if_pos (by simp only [List.length_append, List.length_cons, List.length_nil]; omega)]
    rw [bws _ _ (by simp only [List.length_append, List.length_cons, List.length_nil]; omega), sm]
    simp only []
    have := g30p2 a ha L hL hK hT (so (H.map pr)) (H.length : Int) (k : Int) w2 (mid L x) q2 k2 (by unfold mid; simp; omega) (mid L x).length 0 (s ++ (([64, 64, 32, 45] : Str) ++ plc (cnt 3 (L.take x.1)) (cnt 3 (mid L x)) ++ ([32, 43] : Str) ++ plc (cnt 2 (L.take x.1)) (cnt 2 (mid L x)) ++ ([32, 64, 64, 10] : Str))) (by omega) (by rw [List.drop_zero]; simp only [List.length_append, List.length_cons, List.length_nil]; omega)
    rw [List.drop_zero, show ((0 : Nat) : Int) = 0 from rfl] at this
    rw [this, wn1 k (by omega)]
    rw [g30 H hH hin n (k + 1) _ (by omega) (by simp only [List.length_append, List.length_cons, List.length_nil]; omega)]
    unfold hst; simp
end
end Go.Proofs.YtllhdbdbdblimaaDoor

/-!
  Lines: the laws of changes, plainly.
-/
namespace Go.Proofs.YtllhdbdbdblimaaDoor
open Go AW
set_option linter.unusedVariables false
set_option linter.unusedSimpArgs false
set_option linter.unusedSectionVars false

def kp (l : List T54) : Nat := (l.filter fun c => c.Kind == 1).length
theorem kp_cons (c : T54) (l : List T54) : kp (c :: l) = (if c.Kind == 1 then 1 else 0) + kp l := by
  unfold kp; rw [List.filter_cons]; split <;> simp <;> omega
theorem g38 (o : Sl T54) (l : List T54) (ho : ls o = l) (hl : l.length ≤ 100000000) : ∀ (n k m : Nat), n + k = l.length → m ≤ k → G38 (.p1 (m : Int) o (l.length : Int) k) = some ((m + kp (l.drop k) : Nat) : Int)
  | 0, k, m, h, hm => by
    rw [G38.eq_1, dfi (by omega), List.drop_eq_nil_of_le (by omega)]; rfl
  | n + 1, k, m, h, hm => by
    obtain ⟨c, hc⟩ := get_ex l (show k < l.length by omega)
    rw [G38.eq_1, dti (by omega), ho, ixs hc, sm, drop_cons hc, kp_cons, wn1 k (by omega)]
    by_cases e : (c.Kind == 1) = true
    · rw [ti e, wn1 m (by omega), g38 o l ho hl n (k + 1) (m + 1) (by omega) (by omega), if_pos e]; congr 2; omega
    · rw [fi_ (by simpa using e), g38 o l ho hl n (k + 1) m (by omega) (by omega), if_neg e]; congr 2; omega
theorem f38 (o : Sl T54) (hl : (ls o).length ≤ 100000000) : F38 o = some (kp (ls o) : Int) := by
  unfold F38
  have := g38 o (ls o) rfl hl (ls o).length 0 0 (by omega) (by omega)
  simpa using this

def bl (l : List Ln) : Nat := (l.map fun x => x.Text.length + 30).sum
theorem bl_cons (x : Ln) (l : List Ln) : bl (x :: l) = x.Text.length + 30 + bl l := by simp [bl]
/-- What is so of all changes between two lists. -/
theorem df_all : ∀ (n : Nat) (A B : List Ln), A.length + B.length ≤ n → (df A B).all okC = true ∧ wasL (df A B) = A ∧ nowL (df A B) = B ∧ kp (df A B) = lcs A B ∧ (body (df A B)).length ≤ bl A + bl B
  | n, [], [], h => by rw [df_nn]; simp [wasL, nowL, kp, lcs_nil, body, bl]
  | 0, _ :: _, _, h => by simp at h
  | 0, [], _ :: _, h => by simp at h
  | n + 1, [], y :: ys, h => by
    obtain ⟨h1, h2, h3, h4, h5⟩ := df_all n [] ys (by simp only [List.length_cons, List.length_nil] at h ⊢; omega)
    rw [df_nc, wasL_cons, nowL_cons, kp_cons, body_cons, List.all_cons, h1, h2, h3, h4, List.length_append, bl_cons]
    have := cbd_len (ck 3 y)
    refine ⟨by simp [okC, ck], by simp [ck], by simp [ck], by simp [ck, lcs_nil'], ?_⟩
    have e : (ck 3 y).Line.Text = y.Text := rfl
    rw [e] at this; omega
  | n + 1, x :: xs, [], h => by
    obtain ⟨h1, h2, h3, h4, h5⟩ := df_all n xs [] (by simp only [List.length_cons, List.length_nil] at h ⊢; omega)
    rw [df_cn, wasL_cons, nowL_cons, kp_cons, body_cons, List.all_cons, h1, h2, h3, h4, List.length_append, bl_cons]
    have := cbd_len (ck 2 x)
    refine ⟨by simp [okC, ck], by simp [ck], by simp [ck], by simp [ck, lcs_nil], ?_⟩
    have e : (ck 2 x).Line.Text = x.Text := rfl
    rw [e] at this; omega
  | n + 1, x :: xs, y :: ys, h => by
    simp only [List.length_cons] at h
    have hl := lcs_cons x y xs ys
    rw [df_cc]
    by_cases hxy : x = y
    · subst hxy
      obtain ⟨h1, h2, h3, h4, h5⟩ := df_all n xs ys (by omega)
      rw [if_pos rfl] at hl
      rw [if_pos rfl, hl, wasL_cons, nowL_cons, kp_cons, body_cons, List.all_cons, h1, h2, h3, h4, List.length_append, bl_cons, bl_cons]
      have := cbd_len (ck 1 x)
      refine ⟨by simp [okC, ck], by simp [ck], by simp [ck], by simp [ck]; omega, ?_⟩
      have e : (ck 1 x).Line.Text = x.Text := rfl
      rw [e] at this; omega
    · rw [if_neg hxy] at hl
      rw [if_neg hxy]
      by_cases he : lcs xs (y :: ys) = lcs (x :: xs) (y :: ys)
      · obtain ⟨h1, h2, h3, h4, h5⟩ := df_all n xs (y :: ys) (by simp only [List.length_cons]; omega)
        rw [if_pos he, wasL_cons, nowL_cons, kp_cons, body_cons, List.all_cons, h1, h2, h3, h4, List.length_append, bl_cons x]
        have := cbd_len (ck 2 x)
        refine ⟨by simp [okC, ck], by simp [ck], by simp [ck], by simp [ck]; omega, ?_⟩
        have e : (ck 2 x).Line.Text = x.Text := rfl
        rw [e] at this; omega
      · obtain ⟨h1, h2, h3, h4, h5⟩ := df_all n (x :: xs) ys (by simp only [List.length_cons]; omega)
        rw [if_neg he, wasL_cons, nowL_cons, kp_cons, body_cons, List.all_cons, h1, h2, h3, h4, List.length_append, bl_cons y]
        have := cbd_len (ck 3 y)
        refine ⟨by simp [okC, ck], by simp [ck], by simp [ck], by simp [ck]; omega, ?_⟩
        have e : (ck 3 y).Line.Text = y.Text := rfl
        rw [e] at this; omega
theorem kp_le : ∀ l : List T54, l.all okC = true → kp l ≤ lcs (wasL l) (nowL l)
  | [], _ => by simp [kp]
  | c :: l, h => by
    rw [List.all_cons, Bool.and_eq_true] at h
    have ih := kp_le l h.2
    have hc := h.1
    simp only [okC, decide_eq_true_eq] at hc
    rw [kp_cons, wasL_cons, nowL_cons]
    have h123 : c.Kind = 1 ∨ c.Kind = 2 ∨ c.Kind = 3 := by omega
    rcases h123 with e | e | e
    · rw [e]; simp only [show ((1 : Int) == 1) = true from rfl, show ((1 : Int) != 3) = true from rfl, show ((1 : Int) != 2) = true from rfl, if_true]
      rw [lcs_cons, if_pos rfl]; omega
    · rw [e]; simp only [show ((2 : Int) == 1) = false from rfl, show ((2 : Int) != 3) = true from rfl, show ((2 : Int) != 2) = false from rfl, if_true, Bool.false_eq_true, if_false]
      have := lcs_x c.Line (wasL l) (nowL l); omega
    · rw [e]; simp only [show ((3 : Int) == 1) = false from rfl, show ((3 : Int) != 3) = false from rfl, show ((3 : Int) != 2) = true from rfl, if_true, Bool.false_eq_true, if_false]
      have := lcs_y c.Line (wasL l) (nowL l); omega
theorem lcs_self : ∀ l : List Ln, lcs l l = l.length
  | [] => by simp [lcs_nil]
  | x :: l => by rw [lcs_cons, if_pos rfl, lcs_self l]; rfl
theorem text_jn : ∀ l : List Ln, (l.map fun x => x.Text.length).sum ≤ (jn l).length
  | [] => by simp
  | x :: l => by
    have := text_jn l
    rw [jn_cons, List.length_append, jn1_len, List.map_cons, List.sum_cons]; omega
theorem bl_spl (s : Str) : bl (spl s) ≤ 31 * s.length := by
  have h1 := text_jn (spl s)
  rw [spl_jn] at h1
  have h2 := sp_len s []
  have h3 : ∀ l : List Ln, bl l = (l.map fun x => x.Text.length).sum + 30 * l.length := by
    intro l
    induction l with
    | nil => rfl
    | cons x l ih => rw [bl_cons, ih, List.map_cons, List.sum_cons, List.length_cons]; omega
  rw [h3]
  have h4 : (spl s).length ≤ s.length := by unfold spl; simpa using h2
  omega

/-- What Unified answers. -/
def uni (name a b : Str) (ar : Int) : Str × Int :=
  if ar < 0 ∨ ar > 4096 then ([], 2) else if (dif a b).2 ≠ 0 then ([], (dif a b).2) else if a = b then ([], (dif a b).2)
  else (([45, 45, 45, 32] : Str) ++ (34 :: qs name) ++ ([10, 43, 43, 43, 32] : Str) ++ (34 :: qs name) ++ ([10] : Str) ++ hall ar.toNat (ls (dif a b).1) (hk ar.toNat (ls (dif a b).1) 0 none), 0)
theorem dif_spec (a b : Str) : (dif a b).2 = 3 ∧ (dif a b).1 = none ∧ ((spl a).length > 4096 ∨ (spl b).length > 4096) ∨ (dif a b).2 = 0 ∧ (dif a b).1 = so (df (spl a) (spl b)) ∧ (spl a).length ≤ 4096 ∧ (spl b).length ≤ 4096 := by
  unfold dif
  split
  · rename_i h; exact .inl ⟨rfl, rfl, h⟩
  · rename_i h; exact .inr ⟨rfl, rfl, by omega, by omega⟩
section
variable (name a b : Str) (ar : Int) (hn : name.length ≤ 1048576) (hab : a.length + b.length ≤ 1048576)
include hn hab
theorem f30u : F30 name a b ar = some (uni name a b ar) := by
  have hq := qs_len name
  unfold F30 uni
  by_cases h1 : ar < 0
  · rw [dti h1, if_pos (.inl h1)]
  rw [dfi h1]
  by_cases h2 : ar > 4096
  · rw [dti h2, if_pos (.inr h2)]
  rw [dfi h2, if_neg (by omega), f33 a b (by omega) (by omega), sm]
  rcases dif_spec a b with ⟨e2, e1, _⟩ | ⟨e2, e1, ha, hb⟩
  · rw [e2, ti (by rfl), if_pos (show (3 : Int) ≠ 0 by decide)]
  · obtain ⟨k1, k2, k3, k4, k5⟩ := df_all _ (spl a) (spl b) (Nat.le_refl _)
    have b1 := bl_spl a
    have b2 := bl_spl b
    have hlen := df_len _ (spl a) (spl b) (Nat.le_refl _)
    generalize df (spl a) (spl b) = L at e1 k1 k2 k3 k4 k5 hlen
    rw [e2, fi_ (by rfl), if_neg (show ¬ ((0 : Int) ≠ 0) by decide), e1]
    by_cases hE : a = b
    · rw [ti (by simp [hE]), if_pos hE]
    rw [fi_ (by simpa using hE), if_neg hE, ls_so]
    obtain ⟨r, hr⟩ : ∃ r : Nat, ar = r := ⟨ar.toNat, by omega⟩
    subst hr
    rw [Int.toNat_natCast]
    have hc := hk_count r L 0 none
    have hh := hall_len L (by omega) k1 (by omega) r (hk r L 0 none)
    have hh2 : (hall r L (hk r L 0 none)).length ≤ 8193 * 100000110 := Nat.le_trans hh (Nat.mul_le_mul (by omega) (by omega))
    have hin := hk_in r L 0 none (fun h e => by cases e)
    · rw [f24 name (by omega), sm, if_pos (by simp only [List.length_cons, List.length_nil]; omega), if_pos (by simp only [List.length_append, List.length_cons, List.length_nil]; omega), sm, if_pos (by simp only [List.length_append, List.length_cons, List.length_nil]; omega), if_pos (by simp only [List.length_append, List.length_cons, List.length_nil]; omega)]
      rw [bws _ _ (by simp only [List.length_append, List.length_cons, List.length_nil]; omega), sm, f47 r (by omega) L (by omega), sm, ls_so, List.length_map]
      simp only [List.nil_append]
      have hm : (hk r L 0 none).map (fun h => pr (adj r L.length h)) = ((hk r L 0 none).map (adj r L.length)).map pr := by rw [List.map_map]; rfl
      have hf : (((hk r L 0 none).map (adj r L.length)).map (hst L)).flatten = hall r L (hk r L 0 none) := by unfold hall; rw [List.map_map]; rfl
      have := g30 r (by omega) L (by omega) k1 (by omega) ((hk r L 0 none).map (adj r L.length)) (by rw [List.length_map]; omega) (fun h hh' => by
        obtain ⟨h0, h1', rfl⟩ := List.mem_map.1 hh'
        have := hin h0 h1'
        exact adj_ok this.1 (by omega)) ((hk r L 0 none).map (adj r L.length)).length 0 (([45, 45, 45, 32] : Str) ++ (34 :: qs name) ++ ([10, 43, 43, 43, 32] : Str) ++ (34 :: qs name) ++ ([10] : Str)) (by omega) (by rw [List.drop_zero, hf]; simp only [List.length_append, List.length_cons, List.length_nil]; omega)
      rw [List.drop_zero, hf, List.length_map, ← hm, show ((0 : Nat) : Int) = 0 from rfl] at this
      exact this
theorem f31u : F31 name a b ar = some (uni name a b ar) := by
  have hq := qs_len name
  unfold F31 uni
  by_cases h1 : ar < 0
  · rw [dti h1, if_pos (.inl h1)]
  rw [dfi h1]
  by_cases h2 : ar > 4096
  · rw [dti h2, if_pos (.inr h2)]
  rw [dfi h2, if_neg (by omega), f34 a b (by omega) (by omega), sm]
  rcases dif_spec a b with ⟨e2, e1, _⟩ | ⟨e2, e1, ha, hb⟩
  · rw [e2, ti (by rfl), if_pos (show (3 : Int) ≠ 0 by decide)]
  · obtain ⟨k1, k2, k3, k4, k5⟩ := df_all _ (spl a) (spl b) (Nat.le_refl _)
    have b1 := bl_spl a
    have b2 := bl_spl b
    have hlen := df_len _ (spl a) (spl b) (Nat.le_refl _)
    generalize df (spl a) (spl b) = L at e1 k1 k2 k3 k4 k5 hlen
    rw [e2, fi_ (by rfl), if_neg (show ¬ ((0 : Int) ≠ 0) by decide), e1]
    by_cases hE : a = b
    · rw [ti (by simp [hE]), if_pos hE]
    rw [fi_ (by simpa using hE), if_neg hE, ls_so]
    obtain ⟨r, hr⟩ : ∃ r : Nat, ar = r := ⟨ar.toNat, by omega⟩
    subst hr
    rw [Int.toNat_natCast]
    have hc := hk_count r L 0 none
    have hh := hall_len L (by omega) k1 (by omega) r (hk r L 0 none)
    have hh2 : (hall r L (hk r L 0 none)).length ≤ 8193 * 100000110 := Nat.le_trans hh (Nat.mul_le_mul (by omega) (by omega))
    have hin := hk_in r L 0 none (fun h e => by cases e)
    · rw [f25 name (by omega), sm, if_pos (by simp only [List.length_cons, List.length_nil]; omega), if_pos (by simp only [List.length_append, List.length_cons, List.length_nil]; omega), sm, if_pos (by simp only [List.length_append, List.length_cons, List.length_nil]; omega), if_pos (by simp only [List.length_append, List.length_cons, List.length_nil]; omega)]
      have := g31 r (by omega) L (by omega) k1 (by omega) (L.length - 0) 0 (([45, 45, 45, 32] : Str) ++ (34 :: qs name) ++ ([10, 43, 43, 43, 32] : Str) ++ (34 :: qs name) ++ ([10] : Str)) (Nat.le_refl _) (by omega) (by rw [List.drop_zero]; simp only [List.length_append, List.length_cons, List.length_nil]; omega)
      rw [List.drop_zero, show ((0 : Nat) : Int) = 0 from rfl] at this
      exact this
theorem f30_31 : F30 name a b ar = some (uni name a b ar) ∧ F31 name a b ar = some (uni name a b ar) := ⟨f30u name a b ar hn hab, f31u name a b ar hn hab⟩
end

theorem dd_small (n : Nat) (h : n < 10) : dd n = [UInt8.ofNat (48 + n)] := by unfold dd; rw [Lib.decDigits, dif_pos h]
theorem f32 : F32 = some true := by
  have h := (f30_31 [102] [97, 10, 98, 10] [97, 10, 99] 0 (by decide) (by decide)).1
  have e1 : spl [97, 10, 98, 10] = [⟨[97], true⟩, ⟨[98], true⟩] := by decide
  have e2 : spl [97, 10, 99] = [⟨[97], true⟩, ⟨[99], false⟩] := by decide
  have e3 : df (spl [97, 10, 98, 10]) (spl [97, 10, 99]) = [ck 1 ⟨[97], true⟩, ck 2 ⟨[98], true⟩, ck 3 ⟨[99], false⟩] := by
    have hl : lcs [(⟨[98], true⟩ : Ln)] [⟨[99], false⟩] = 0 := by rw [lcs_cons, if_neg (by decide), lcs_nil, lcs_nil']; decide
    rw [e1, e2, df_cc, if_pos rfl, df_cc, if_neg (by decide), if_pos (by rw [hl, lcs_nil']), df_nc, df_nn]
  have e4 : dif [97, 10, 98, 10] [97, 10, 99] = (so [ck 1 ⟨[97], true⟩, ck 2 ⟨[98], true⟩, ck 3 ⟨[99], false⟩], 0) := by
    unfold dif; rw [if_neg (by rw [e1, e2]; decide), e3]
  have e5 : uni [102] [97, 10, 98, 10] [97, 10, 99] 0 = ([45, 45, 45, 32, 34, 102, 34, 10, 43, 43, 43, 32, 34, 102, 34, 10, 64, 64, 32, 45, 50, 32, 43, 50, 32, 64, 64, 10, 45, 98, 10, 43, 99, 10, 92, 32, 78, 111, 32, 110, 101, 119, 108, 105, 110, 101, 32, 97, 116, 32, 101, 110, 100, 32, 111, 102, 32, 102, 105, 108, 101, 10], 0) := by
    unfold uni
    rw [e4, if_neg (by decide), if_neg (by decide), if_neg (by decide)]
    have e6 : hk (Int.toNat 0) (ls (so [ck 1 ⟨[97], true⟩, ck 2 ⟨[98], true⟩, ck 3 ⟨[99], false⟩])) 0 none = [(1, 3)] := by decide
    rw [e6]
    simp only [hall, List.map_cons, List.map_nil, List.flatten_cons, List.flatten_nil]
    have e7 : hst (ls (so [ck 1 ⟨[97], true⟩, ck 2 ⟨[98], true⟩, ck 3 ⟨[99], false⟩])) (adj (Int.toNat 0) 3 (1, 3)) = [64, 64, 32, 45, 50, 32, 43, 50, 32, 64, 64, 10, 45, 98, 10, 43, 99, 10, 92, 32, 78, 111, 32, 110, 101, 119, 108, 105, 110, 101, 32, 97, 116, 32, 101, 110, 100, 32, 111, 102, 32, 102, 105, 108, 101, 10] := by
      unfold hst
      have p : plc 1 1 = [50] := by unfold plc; rw [if_neg (by decide), if_pos rfl, dd_small 2 (by decide)]; decide
      have c1 : cnt 3 ((ls (so [ck 1 ⟨[97], true⟩, ck 2 ⟨[98], true⟩, ck 3 ⟨[99], false⟩])).take (adj (Int.toNat 0) 3 (1, 3)).1) = 1 := by decide
      have c2 : cnt 2 ((ls (so [ck 1 ⟨[97], true⟩, ck 2 ⟨[98], true⟩, ck 3 ⟨[99], false⟩])).take (adj (Int.toNat 0) 3 (1, 3)).1) = 1 := by decide
      have c3 : cnt 3 (mid (ls (so [ck 1 ⟨[97], true⟩, ck 2 ⟨[98], true⟩, ck 3 ⟨[99], false⟩])) (adj (Int.toNat 0) 3 (1, 3))) = 1 := by decide
      have c4 : cnt 2 (mid (ls (so [ck 1 ⟨[97], true⟩, ck 2 ⟨[98], true⟩, ck 3 ⟨[99], false⟩])) (adj (Int.toNat 0) 3 (1, 3))) = 1 := by decide
      rw [c1, c2, c3, c4, p]
      decide
    rw [show (ls (so [ck 1 ⟨[97], true⟩, ck 2 ⟨[98], true⟩, ck 3 ⟨[99], false⟩])).length = 3 from rfl, e7]
    decide
  unfold F32
  rw [h, sm, f13, sm, if_pos rfl, e5]
  decide

theorem bk_l : ∀ l : List T54, l.length ≤ (l.map bk54).sum ∧ (jn (nowL l)).length ≤ (l.map bk54).sum
  | [] => by simp [nowL, jn]
  | c :: l => by
    obtain ⟨h1, h2⟩ := bk_l l
    have e : bk54 c = 1 + (c.Line.Text.length + 1 + 1 + 1) + 1 := rfl
    rw [nowL_cons]
    simp only [List.map_cons, List.sum_cons, List.length_cons]
    refine ⟨by omega, ?_⟩
    split
    · rw [jn_cons, List.length_append, jn1_len]; split <;> omega
    · omega
theorem pureULinesUnified (a0 : Str) (a1 : Str) (a2 : Str) (a3 : Int) (w3 : (Lit.int .i64 a3).wf = true) (hb : bkS a0 + bkS a1 + bkS a2 + 1 ≤ 1048576) : F10 a0 a1 a2 a3 = some true := by
  simp only [bkS] at hb
  obtain ⟨h1, h2⟩ := f30_31 a0 a1 a2 a3 (by omega) (by omega)
  unfold F10
  rw [h1, h2, sm, sm, f32, sm, if_pos rfl, ti (by simp)]; simp
theorem pureULinesDiffs (a0 : Str) (a1 : Str) (a2 : Sl T54) (w2 : ∀ x ∈ ls a2, ok54 x) (hb : bkS a0 + bkS a1 + bkSl bk54 a2 ≤ 1048576) : F11 a0 a1 a2 = some true := by
  obtain ⟨h1, h2⟩ := bk_l (ls a2)
  simp only [bkS, bkSl] at hb
  have hsl : (spl a0).length ≤ 100000000000 := by have := sp_len a0 []; unfold spl; simp at this; omega
  have hdl : (ls (dif a0 a1).1).length ≤ 1000000000000 := by
    rcases dif_spec a0 a1 with ⟨_, e1, _⟩ | ⟨_, e1, ha, hb'⟩
    · rw [e1]; simp [ls]
    · rw [e1, ls_so]; have := df_len _ (spl a0) (spl a1) (Nat.le_refl _); omega
  unfold F11
  rw [f33 a0 a1 (by omega) (by omega), sm, f34 a0 a1 (by omega) (by omega), sm, f35 a0 (by omega) a2 (ls a2) rfl (by omega) (by omega), sm, f36 a0 (by omega) a2 (ls a2) rfl (by omega) (by omega) hsl, sm, f32, sm, if_pos rfl, f37 _ _ hdl, sm, ti (by simp), ti (by simp), ti (by simp)]
  simp
/-- The lines that changes put together. -/
theorem g12p2 (b : Str) (hb : b.length ≤ 100000000) (o : Sl T54) (l : List T54) (ho : ls o = l) (hl : l.length ≤ 100000000) : ∀ (n k : Nat) (m : List Ln), n + k = l.length → m = nowL (l.take k) → m.length ≤ k → G12 (.p2 b o (l.length : Int) k (so m)) = some (!decide (nowL l = spl b))
  | 0, k, m, h, hm, hml => by
    have e : l.take k = l := List.take_of_length_le (by omega)
    rw [e] at hm
    rw [G12.eq_2, dfi (by omega), f14 b (by omega), sm, f15 _ _ (by rw [ls_so]; omega), sm, ls_so, ls_so, hm]
  | n + 1, k, m, h, hm, hml => by
    obtain ⟨c, hc⟩ := get_ex l (show k < l.length by omega)
    have ht := take_snoc hc
    have hm' : nowL (l.take (k + 1)) = m ++ (if c.Kind != 2 then [c.Line] else []) := by
      rw [ht, hm]; unfold nowL; rw [List.filter_append, List.map_append, List.filter_cons]; split <;> rfl
    rw [G12.eq_2, dti (by omega), ho, ixs hc, sm, wn1 k (by omega)]
    by_cases h3 : (c.Kind != 2) = true
    · rw [ti h3, ls_so, if_pos (by simp [ls]; omega)]
      rw [if_pos h3] at hm'
      rw [show sapp (so m) (ls (some [c.Line])) = so (m ++ [c.Line]) from sapp_so _ _]
      exact g12p2 b hb o l ho hl n (k + 1) _ (by omega) hm'.symm (by simp; omega)
    · have h3' : (c.Kind != 2) = false := by simpa using h3
      rw [fi_ h3']
      rw [if_neg h3, List.append_nil] at hm'
      exact g12p2 b hb o l ho hl n (k + 1) m (by omega) hm'.symm (by omega)
theorem pureULinesChanged (a0 : Str) (a1 : Str) (a2 : Sl T54) (w2 : ∀ x ∈ ls a2, ok54 x) (hb : bkS a0 + bkS a1 + bkSl bk54 a2 ≤ 1048576) : F12 a0 a1 a2 = some true := by
  obtain ⟨h1, h2⟩ := bk_l (ls a2)
  simp only [bkS, bkSl] at hb
  have hsa := sp_len a0 []
  have hsb := sp_len a1 []
  simp only [List.length_nil, Nat.add_zero] at hsa hsb
  unfold F12
  rw [f32, sm, fi_ (by rfl), f33 a0 a1 (by omega) (by omega), sm]
  rcases dif_spec a0 a1 with ⟨e2, e1, hgt⟩ | ⟨e2, e1, ha, hb'⟩
  · rw [e2, e1, ti (by rfl), ti (by rfl), f21 a0 (by omega), sm]
    by_cases hga : (spl a0).length > 4096
    · rw [dti (by omega)]; rfl
    · rw [dfi (by omega), f21 a1 (by omega), sm, dti (by omega)]; rfl
  · obtain ⟨k1, k2, k3, k4, k5⟩ := df_all _ (spl a0) (spl a1) (Nat.le_refl _)
    have hlen := df_len _ (spl a0) (spl a1) (Nat.le_refl _)
    have hself : a0 = a1 → kp (df (spl a0) (spl a1)) = (spl a0).length := fun e => by rw [k4, e]; exact lcs_self _
    generalize df (spl a0) (spl a1) = L at e1 k1 k2 k3 k4 k5 hlen hself
    have hap : apl a0 L = (a1, 0) := by unfold apl; rw [if_pos ⟨k1, k2⟩, k3, spl_jn]
    have p3 : G12 (.p3 a0 a1) = some true := by
      have hu : (uni [120] a0 a1 1).2 = 0 ∧ ((uni [120] a0 a1 1).1 == ([] : Str)) = (a0 == a1) := by
        unfold uni
        rw [if_neg (show ¬ ((1 : Int) < 0 ∨ (1 : Int) > 4096) by decide), if_neg (show ¬ ((dif a0 a1).2 ≠ 0) by rw [e2]; decide), e2]
        by_cases hE : a0 = a1
        · rw [if_pos hE]; exact ⟨rfl, by simp [hE]⟩
        · rw [if_neg hE]
          have : (a0 == a1) = false := by simpa using hE
          rw [this]; exact ⟨rfl, rfl⟩
      rw [G12.eq_3, (f30_31 [120] a0 a1 1 (by decide) (by omega)).1, sm, hu.1, hu.2, ti (by rfl)]
      simp
    have p1 : G12 (.p1 a0 a1 a2 (so L)) = some true := by
      rw [G12.eq_1, f35 a0 (by omega) a2 (ls a2) rfl (by omega) (by omega), sm]
      by_cases hz : ((apl a0 (ls a2)).2 == 0) = true
      · rw [ti hz]
        by_cases hz2 : ((apl a0 (ls a2)).1 == a1) = true
        · rw [ti hz2, f38 _ (by omega), sm, f38 _ (by rw [ls_so]; omega), sm, ls_so]
          by_cases hgt : (kp (ls a2) : Int) > (kp L : Int)
          · rw [dti hgt]
            have := g12p2 a1 (by omega) a2 (ls a2) rfl (by omega) (ls a2).length 0 [] (by omega) rfl (by simp)
            rw [show so ([] : List Ln) = none from rfl, show ((0 : Nat) : Int) = 0 from rfl] at this
            rw [this]
            have hne : ¬ (nowL (ls a2) = spl a1) := fun hnow => by
              unfold apl at hz
              split at hz
              · rename_i hok
                have := kp_le (ls a2) hok.1
                rw [hok.2, hnow, ← k4] at this
                omega
              · simp at hz
            simp [hne]
          · rw [dfi hgt]; exact p3
        · rw [fi_ (by simpa using hz2)]; exact p3
      · rw [fi_ (by simpa using hz)]; exact p3
    have hbody : (jn (nowL L)).length ≤ 10000000000000 := by rw [k3, spl_jn]; omega
    rw [e2, e1, fi_ (by rfl), f35 a0 (by omega) (so L) L (ls_so L) (by omega) hbody, sm, hap, fi_ (by rfl), fi_ (by simp)]
    by_cases hE : a0 = a1
    · rw [ti (by simp [hE]), f38 _ (by rw [ls_so]; omega), sm, f21 a0 (by omega), sm, ls_so, hself hE, fi_ (by simp)]
      exact p1
    · rw [fi_ (by simpa using hE)]; exact p1
end Go.Proofs.YtllhdbdbdblimaaDoor
