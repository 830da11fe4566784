/-
  From a function's walk to its row: what memory holds at the call's beginning, and the arguments, opened.
-/
import Derived.Test.YtjbafmnocopofaaFwT3
import Derived.ProofKit
import Derived.OpenShut
import Derived.ShutString
import Derived.ChangeOld
import Derived.Below
import Derived.SizedLaws
set_option linter.unusedSimpArgs false
set_option linter.unusedVariables false
namespace Go.Proofs.Ytjbafmnocopofaa.AW
open Go Go.RowKit Go.WideShapes Go.ChangeShapes

/-- What memory holds, cell by cell. -/
def M0 (W : World) (b o : Nat) : Option Value :=
  match W.cell? ⟨b, o, none⟩ with
  | some u => if u.oneCell' = true then some u else none
  | none => none
def shW (W : World) (b : Nat) : Option (Nat × Nat) := match W.heap[b]? with
  | some (.cells arr e _) => some (e, arr.size)
  | _ => none
def G0 (W : World) : Gh := ⟨[], M0 W, shW W⟩

theorem M0_some {W : World} {b o : Nat} {u : Value} (h : W.cell? ⟨b, o, none⟩ = some u) (h1 : u.oneCell' = true) : M0 W b o = some u := by
  simp only [M0, h, h1, if_true]

theorem store0 (W : World) : StoreRel noG (G0 W) [] W where
  len := rfl
  obj := fun i o s h => by simp at h
  apart := fun i j s t b _ h => by simp [G0] at h
  mem := fun b o u h => by
    simp only [G0, M0] at h
    split at h
    · rename_i u' hu
      split at h
      · cases h; exact hu
      · cases h
    · cases h
  one := fun b o u h => by
    simp only [G0, M0] at h
    split at h
    · rename_i u' hu
      split at h
      · rename_i h1; cases h; exact h1
      · cases h
    · cases h
  shp := fun b e n h => by
    simp only [G0, shW] at h
    split at h
    · rename_i arr e' fz hb; cases h; exact ⟨arr, fz, hb, rfl⟩
    · cases h
  glob := fun g cs h => by simp [noG] at h

/-- A law that answers true. -/
theorem law_calls {P : Program} {f : FuncId} {ds : List AV} {vs : List Value} {W : World} (h : DFun P noG f ds (.bool true)) (hr : RepL (G0 W) ds vs) :
    Calls P f vs.toArray W fun e W' => e = .returned (.bool true) ∧ Below W.heap.size W W' := by
  refine (h (G0 W) W vs hr (store0 W)).mono fun e W' ⟨u, r, st', G', he, hr', hs', hext, hd, hk⟩ => ?_
  have hrr := strip_rep (G := G') (G' := G') (fun _ _ _ h => h) hd hr'
  have e1 : r.strip = .bool true := hk
  rw [e1] at hrr
  simp only [Rep] at hrr
  subst hrr
  exact ⟨he, hext.os, hext.tape, hext.output, hext.size, fun k hk => hext.block k hk fun s hs => by simp [G0] at hs⟩

theorem repl_cons {G : Gh} {v : AV} {u : Value} {vs : List AV} {us : List Value} (h : Rep G v u) (hl : RepL G vs us) : RepL G (v :: vs) (u :: us) := by
  simp only [RepL]; exact ⟨u, us, rfl, h, hl⟩
theorem repl_nil {G : Gh} : RepL G [] [] := by simp only [RepL]

theorem rep_str0 {G : Gh} (a : ByteArray) : Rep G (.str a.data.toList) (.string a) := by simp only [Rep]; exact ⟨a, rfl, rfl⟩
theorem rep_int0 {G : Gh} (k : IntKind) (n : Int) : Rep G (.int k n) (.int k n) := by simp only [Rep]
theorem rep_bool0 {G : Gh} (b : Bool) : Rep G (.bool b) (.bool b) := by simp only [Rep]

theorem repl_ints {G : Gh} (k : IntKind) : ∀ l : List Int, RepL G (l.flatMap (cI k)) (l.map (Value.int k))
  | [] => repl_nil
  | n :: l => repl_cons (rep_int0 k n) (repl_ints k l)

section
variable {H : Type} {enc : TypeId × Value → H} {P : Program} {W : World} {base : Nat} {spare : Nat → Bool} {held : Bool}

/-- An array of whole numbers. -/
theorem open_arr {t e : TypeId} {n : Nat} {k : IntKind} {fuel : Nat} {cs : List Value} {x : DataW H × List MemPlace} (ht : P.underlying t = some (.array n e)) (he : P.underlying e = some (.int k)) (hc : P.cellsOf e = 1) (hct : P.cellsOf t = n)
    (h : DataW.trod enc P W base spare held fuel t cs = some x) : ∃ l : List Int, l.length = n ∧ cs = l.map (Value.int k) ∧ ∀ y ∈ l, (Lit.int k y).wf = true := by
  obtain ⟨xs, m, _, _, hl, hxs, each⟩ := DataW.trod_array ht h
  rw [hct] at hl
  have key : ∀ i, i < n → ∃ y, cs[i]? = some (Value.int k y) ∧ (Lit.int k y).wf = true := fun i hi => by
    have h1 := each i hi
    have h2 : xs[i]? = some (xs[i]'(by omega)) := by simp
    rw [h2, hc, Nat.mul_one] at h1
    obtain ⟨q, hcs, _, hw⟩ := DataW.trod_int he h1
    refine ⟨_, ?_, hw⟩
    have h3 : ((cs.drop i).take 1)[0]? = cs[i]? := by
      rw [List.getElem?_take, if_pos (by omega), List.getElem?_drop, Nat.add_zero]
    rw [← h3, hcs]
    rfl
  refine ⟨cs.map intOf, by simp [hl], ?_, ?_⟩
  · apply List.ext_getElem?
    intro i
    by_cases hi : i < n
    · obtain ⟨y, hy, _⟩ := key i hi
      rw [hy, List.map_map, List.getElem?_map, hy]
      rfl
    · rw [List.getElem?_eq_none (by omega), List.getElem?_eq_none (by simp; omega)]
  · intro y hy
    simp only [List.mem_map] at hy
    obtain ⟨u, hu, rfl⟩ := hy
    obtain ⟨i, hi⟩ := List.getElem?_of_mem hu
    have hin : i < n := by rw [← hl]; exact (List.getElem?_eq_some_iff.1 hi).1
    obtain ⟨y, hy, hw⟩ := key i hin
    rw [hi] at hy
    cases hy
    exact hw

theorem okWide_arr {t e : TypeId} {n : Nat} {r : Reach} {v : Value} (ht : P.underlying t = some (.array n e)) (hval : Value.okWide P W r base t v) : ∃ cs, v = .agg cs := by
  simp only [Value.okWide, ht] at hval
  obtain ⟨cs, h, _⟩ := hval
  exact ⟨cs, h⟩

/-- An argument that is an array of whole numbers. -/
theorem arg_arr {t e : TypeId} {n : Nat} {k : IntKind} {r : Reach} {b0 : Nat} {v : Value} {d : DataW H} {ps : List MemPlace} (ht : P.underlying t = some (.array n e)) (he : P.underlying e = some (.int k)) (hc : P.cellsOf e = 1) (hct : P.cellsOf t = n)
    (hval : Value.okWide P W r b0 t v) (h : DataW.Trod enc P W base spare held t v d ps) : ∃ a : Arr n Int, (∀ y ∈ a.l, (Lit.int k y).wf = true) ∧ Rep (G0 W) (.agg (cA (cI k) a)) v := by
  obtain ⟨cs, rfl⟩ := okWide_arr (base := b0) ht hval
  obtain ⟨fuel, hf⟩ := h
  obtain ⟨l, hl, e1, hw⟩ := open_arr ht he hc hct hf
  refine ⟨⟨l, hl⟩, hw, ?_⟩
  simp only [Rep]
  refine ⟨cs.toList, ?_, by simp⟩
  have e2 : cs.toList = l.map (Value.int k) := e1
  rw [e2]
  exact repl_ints k l

theorem reps_ints {k : IntKind} {b : Nat} : ∀ (l : List Int) (o : Nat), (∀ i, i < l.length → W.cell? ⟨b, o + i, none⟩ = some (.int k (l.getD i 0))) → RepS (G0 W) 1 b o (l.map (AV.int k))
  | [], _, _ => by simp only [List.map_nil, RepS]
  | n :: l, o, h => by
    simp only [List.map_cons, RepS]
    refine ⟨⟨.int k n, rep_int0 k n, rfl, fun j x hx => ?_⟩, reps_ints l (o + 1) fun i hi => ?_⟩
    · have hj : j = 0 ∧ x = .int k n := by
        cases j with
        | zero => simp [Value.cells] at hx; exact ⟨rfl, hx.symm⟩
        | succ j => simp [Value.cells] at hx
      obtain ⟨rfl, rfl⟩ := hj
      exact M0_some (by simpa using h 0 (by simp)) rfl
    · have := h (i + 1) (by simp; omega)
      rw [show o + 1 + i = o + (i + 1) by omega, this]
      simp

/-- An argument that is a slice of whole numbers. -/
theorem arg_ints {t e : TypeId} {k : IntKind} {b0 : Nat} {v : Value} {d : DataW H} {ps : List MemPlace} (ht : P.underlying t = some (.slice e)) (he : P.underlying e = some (.int k)) (hc : P.cellsOf e = 1)
    (hval : Value.okWide P W .any b0 t v) (h : DataW.Trod enc P W base (fun _ => true) held t v d ps) : ∃ o : Sl Int, (∀ y ∈ ls o, (Lit.int k y).wf = true) ∧ Rep (G0 W) (slV 1 (AV.int k) o) v ∧
      ((o = none ∧ d = .nil) ∨ ∃ l sp, o = some l ∧ d = .slice (lits k l) sp) := by
  obtain ⟨a, len, cap, rfl⟩ := okWide_slice ht hval
  obtain ⟨fuel, hf⟩ := h
  rcases open_ints ht he hc hf with ⟨hcs, hx⟩ | ⟨x, l, c, zs, hcs, _, hl, _, hz, hd, hcell, hwz⟩
  · simp [Value.cells] at hcs
    obtain ⟨rfl, rfl, rfl⟩ := hcs
    cases hx
    exact ⟨none, fun _ h => by simp [ls] at h, by simp only [slV, Rep], .inl ⟨rfl, rfl⟩⟩
  · simp [Value.cells] at hcs
    obtain ⟨rfl, rfl, rfl⟩ := hcs
    simp only [if_true] at hz
    cases hd
    have hspot : x.spot = none := by
      simp only [Value.okWide, ht, Cell.okWide, Cell.ok] at hval
      exact hval.2.2.2.1
    obtain ⟨b, off, spot⟩ := x
    simp only at hspot
    subst hspot
    refine ⟨some (zs.take len), fun y hy => hwz y (List.mem_of_mem_take (by simpa [ls] using hy)), ?_, .inr ⟨_, _, rfl, rfl⟩⟩
    have hlen : (zs.take len).length = len := by simp; omega
    simp only [slV, Rep]
    refine ⟨b, off, cap, ?_, by simp; omega, trivial, none, .inl rfl, by simp; omega⟩
    refine reps_ints _ _ fun i hi => ?_
    rw [hlen] at hi
    have := hcell i (by omega)
    rw [← Go.WideShapes.add_plain, this]
    simp [List.getD, List.getElem?_take, hi]
end
end Go.Proofs.Ytjbafmnocopofaa.AW
