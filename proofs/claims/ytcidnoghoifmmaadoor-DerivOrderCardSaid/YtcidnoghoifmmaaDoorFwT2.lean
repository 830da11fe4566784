/-
  The rules of a function's walk, one for each kind of operation.
-/
import Derived.Test.YtcidnoghoifmmaaDoorFwT1
set_option linter.unusedSimpArgs false
set_option linter.unusedVariables false
namespace Go.Proofs.YtcidnoghoifmmaaDoor.AW
open Go

def DS (v v' : AV) : Prop := v.data = true ∧ v.strip = v'
def DSL (v v' : List AV) : Prop := AV.dataL v = true ∧ AV.stripL v = v'
theorem ds_i {k : IntKind} {n : Int} : DS (.int k n) (.int k n) := ⟨rfl, rfl⟩
theorem ds_b {b : Bool} : DS (.bool b) (.bool b) := ⟨rfl, rfl⟩
theorem ds_s {b : Str} : DS (.str b) (.str b) := ⟨rfl, rfl⟩
theorem ds_agg {cs : List AV} (h : DSL cs cs) : DS (.agg cs) (.agg cs) := ⟨h.1, by simp only [AV.strip, h.2]⟩
theorem ds_tup {cs cs' : List AV} (h : DSL cs cs') : DS (.tup cs) (.tup cs') := ⟨h.1, by simp only [AV.strip, h.2]⟩
theorem dsl_nil : DSL [] [] := ⟨rfl, rfl⟩
theorem dsl_cons {v v' : AV} {l l' : List AV} (h : DS v v') (hl : DSL l l') : DSL (v :: l) (v' :: l') := ⟨by simp only [AV.dataL, h.1, hl.1, Bool.and_self], by simp only [AV.stripL, h.2, hl.2]⟩
theorem dsl_app {a b : List AV} (h : DSL a a) (hl : DSL b b) : DSL (a ++ b) (a ++ b) := ⟨by simp only [dataL_app, h.1, hl.1, Bool.and_self], by simp only [stripL_app, h.2, hl.2]⟩
theorem ds_rd {α : Type} {es : Nat} {f : α → AV} (hf : ∀ x, DS (f x) (f x)) {o : Sl α} {v : AV} (h : RdV es f o v) : DS v (slV es f o) := ⟨rd_data (fun x => (hf x).1) h, rd_strip (fun x => (hf x).2) h⟩
theorem ds_sl {α : Type} {es : Nat} {f : α → AV} (hf : ∀ x, DS (f x) (f x)) {o : Sl α} : DS (slV es f o) (slV es f o) := ds_rd hf (rd_V rfl)

def cI (k : IntKind) (x : Int) : List AV := [.int k x]
def cB (x : Bool) : List AV := [.bool x]
def cS (x : Str) : List AV := [.str x]
theorem cI_len (k : IntKind) (x : Int) : (cI k x).length = 1 := rfl
theorem cB_len (x : Bool) : (cB x).length = 1 := rfl
theorem cS_len (x : Str) : (cS x).length = 1 := rfl
theorem cI_ds (k : IntKind) (x : Int) : DSL (cI k x) (cI k x) := ⟨rfl, rfl⟩
theorem cB_ds (x : Bool) : DSL (cB x) (cB x) := ⟨rfl, rfl⟩
theorem cS_ds (x : Str) : DSL (cS x) (cS x) := ⟨rfl, rfl⟩
theorem cI_one (k : IntKind) (x : Int) : (cI k x).all AV.one = true := rfl
theorem cB_one (x : Bool) : (cB x).all AV.one = true := rfl
theorem cS_one (x : Str) : (cS x).all AV.one = true := rfl
theorem cA_ds {n : Nat} {α : Type} {c : α → List AV} (hc : ∀ x, DSL (c x) (c x)) (a : Arr n α) : DSL (cA c a) (cA c a) := ⟨dataL_flat (fun x => (hc x).1) _, stripL_flat (fun x => (hc x).2) _⟩
theorem one_app {a b : List AV} (h : a.all AV.one = true) (h' : b.all AV.one = true) : (a ++ b).all AV.one = true := by rw [List.all_append, h, h']; rfl

def EqC {α : Type} [DecidableEq α] (ks : List LK) (c : α → List AV) : Prop := ∀ x y : α, AV.eqKs ks (c x) (c y) = some (decide (x = y))
theorem eqKs_app : ∀ (ks : List LK) (a b : List AV) (r : Bool), AV.eqKs ks a b = some r → ∀ (ks' : List LK) (a' b' : List AV) (r' : Bool), AV.eqKs ks' a' b' = some r' → AV.eqKs (ks ++ ks') (a ++ a') (b ++ b') = some (r && r')
  | [], [], [], r, h, ks', a', b', r', h' => by simp only [AV.eqKs, Option.some.injEq] at h; subst h; simpa using h'
  | k :: ks, x :: a, y :: b, r, h, ks', a', b', r', h' => by
    simp only [AV.eqKs] at h
    split at h
    · rename_i p q h1 h2
      cases h
      have := eqKs_app ks a b q h2 ks' a' b' r' h'
      simp only [List.cons_append, AV.eqKs, h1, this, Bool.and_assoc]
    · cases h
  | [], [], _ :: _, r, h, _, _, _, _, _ => by simp [AV.eqKs] at h
  | [], _ :: _, _, r, h, _, _, _, _, _ => by simp [AV.eqKs] at h
  | _ :: _, [], _, r, h, _, _, _, _, _ => by simp [AV.eqKs] at h
  | _ :: _, _ :: _, [], r, h, _, _, _, _, _ => by simp [AV.eqKs] at h
theorem eqC_I (k : IntKind) : EqC [.i] (cI k) := fun x y => by
  simp only [cI, AV.eqKs, AV.eqK, if_true, Bool.and_true]; rfl
theorem eqC_flat {α : Type} [DecidableEq α] {ks : List LK} {c : α → List AV} (hc : EqC ks c) : ∀ (l m : List α), l.length = m.length → AV.eqKs (repK ks l.length) (l.flatMap c) (m.flatMap c) = some (decide (l = m))
  | [], [], _ => by simp [repK, AV.eqKs]
  | x :: l, y :: m, h => by
    have h' : l.length = m.length := by simpa using h
    rw [List.flatMap_cons, List.flatMap_cons, List.length_cons, repK, eqKs_app _ _ _ _ (hc x y) _ _ _ _ (eqC_flat hc l m h')]
    by_cases h1 : x = y <;> by_cases h2 : l = m <;> simp [h1, h2]
  | [], _ :: _, h => by simp at h
  | _ :: _, [], h => by simp at h
theorem eqC_A {n : Nat} {α : Type} [DecidableEq α] {ks ks' : List LK} {c : α → List AV} (hc : EqC ks c) (e : ks' = repK ks n) : EqC ks' (cA (n := n) c) := fun x y => by
  have h := eqC_flat hc x.l y.l (by rw [x.h, y.h])
  rw [x.h] at h
  rw [e, cA, cA, h]
  congr 1
  by_cases e : x = y
  · subst e; simp
  · have : ¬ x.l = y.l := fun e' => e (Arr.ext e')
    simp [e, this]

theorem bsplit {b : Bool} {p : Prop} (h1 : b = true → p) (h2 : b = false → p) : p := by cases b; exact h2 rfl; exact h1 rfl

section
variable {X : Cx} {k : List KI} {tm : Fr} {st : Store} {l suf : List AOp} {d : Nat} {st0 : Store} {mr r : Nat} {x y i a : AX}

theorem rl_tmp {E : Glob} {t : Nat} {v : AV} {vs : List AV} {rs : List RA} (h : tm t = v) (hl : resL E tm st rs = some vs) : resL E tm st (.tmp t :: rs) = some (v :: vs) := by
  subst h; simp only [resL, resOne, hl]
theorem rl_cell1 {E : Glob} {t id off : Nat} {cs : List AV} {v : AV} {vs : List AV} {rs : List RA} (hp : tm t = .ptr id off) (ho : st[id]? = some (.cells cs)) (hr : LR cs off [v] [v] cs) (hl : resL E tm st rs = some vs) : resL E tm st (.cell1 t :: rs) = some (v :: vs) := by
  have h := hr.get (n := 1) rfl
  simp only [resL, resOne, hp, cellsAt, ho, if_pos h.1, h.2, hl]; rfl
theorem rl_cellN {E : Glob} {t id off n : Nat} {cs s : List AV} {vs : List AV} {rs : List RA} (hp : tm t = .ptr id off) (ho : st[id]? = some (.cells cs)) (hr : LR cs off s s cs) (hn : s.length = n) (hl : resL E tm st rs = some vs) : resL E tm st (.cellN t n :: rs) = some (.agg s :: vs) := by
  have h := hr.get hn
  simp only [resL, resOne, hp, cellsAt, ho, if_pos h.1, h.2, hl]
def inS : List Nat → Nat → Bool
  | [], _ => false
  | n :: l, i => Nat.beq n i || inS l i
def strp (S : List Nat) (tm : Fr) : Fr := fun i => bif inS S i then (tm i).strip else tm i
def DataS (tm : Fr) : List Nat → Prop
  | [] => True
  | n :: S => (tm n).data = true ∧ DataS tm S
theorem inS_data {tm : Fr} : ∀ {S : List Nat} {i : Nat}, DataS tm S → inS S i = true → (tm i).data = true
  | [], _, _, h => by simp [inS] at h
  | n :: S, i, hd, h => by
    simp only [inS, Bool.or_eq_true] at h
    rcases h with h | h
    · rw [← Nat.eq_of_beq_eq_true h]; exact hd.1
    · exact inS_data hd.2 h
theorem weak_strp {S : List Nat} (h : DataS tm S) : Weak tm (strp S tm) := fun G a hf t => by
  unfold strp
  cases e : inS S t with
  | false => exact hf t
  | true => exact strip_rep (fun _ _ _ h => h) (inS_data h e) (hf t)
end
end Go.Proofs.YtcidnoghoifmmaaDoor.AW
