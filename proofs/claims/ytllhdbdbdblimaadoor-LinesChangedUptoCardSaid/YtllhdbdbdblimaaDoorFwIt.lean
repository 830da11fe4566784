/-
  A call into Go's library by its contract: strconv.Itoa, whose table of powers the variables list.
-/
import Derived.Test.YtllhdbdbdblimaaDoorFwS7
import Derived.Lib.ItoaMem
set_option linter.unusedVariables false
namespace Go.Proofs.YtllhdbdbdblimaaDoor.AW
open Go

theorem repl_intsR {G : Gh} {k : IntKind} : ∀ {zs : List Int} {us : List Value}, RepL G (zs.flatMap (cI k)) us → us = zs.map (Value.int k)
  | [], us, h => by simpa [RepL] using h
  | z :: zs, us, h => by
    have h' : RepL G (.int k z :: zs.flatMap (cI k)) us := h
    simp only [RepL] at h'
    obtain ⟨u, us', rfl, hu, hr⟩ := h'
    simp only [Rep] at hu
    rw [hu, repl_intsR hr, List.map_cons]

theorem tab_of_glob {P : Program} {E : Glob} {G : Gh} {st : Store} {w : World} (hs : StoreRel E G st w) {name : String} {g : Nat} {k : IntKind} {zs : List Int} (hg : P.globalNamed name = some g) (hE : E g = some (zs.flatMap (cI k))) : Lib.TabIs P w name k zs := by
  obtain ⟨us, hr, hm, e, hsh⟩ := hs.glob g _ hE
  have hus := repl_intsR hr
  obtain ⟨arr, fz, h1, h2⟩ := hs.shp g e _ hsh
  unfold Lib.TabIs World.var?
  rw [hg]
  simp only [Option.bind_some, h1]
  congr 1
  apply Array.ext
  · rw [h2, hus]; simp
  · intro i hi hi'
    have hiu : i < us.length := by rw [← h2]; exact hi
    have h3 := hs.mem _ _ _ (hm i us[i] (by simp [hiu]))
    simp only [World.cell?, h1, Option.isSome_none, Bool.false_eq_true, if_false] at h3
    rw [Array.getElem?_eq_getElem hi] at h3
    have h4 : arr[i] = us[i] := by simpa using h3
    rw [h4]
    simp [hus]

theorem StoreRel.same {E : Glob} {G : Gh} {st : Store} {w w' : World} (h : StoreRel E G st w) (hb : ∀ b, b < w.heap.size → w'.heap[b]? = w.heap[b]?) : StoreRel E G st w' where
  len := h.len
  obj := fun i o s ho hs => (h.obj i o s ho hs).keep (GExt.refl G) (fun b hb' => hb b ((h.obj i o s ho hs).block hb')) fun b o u _ hu => hu
  apart := h.apart
  mem := fun b o u hu => by
    have := h.mem b o u hu
    rw [← this]
    exact World.cell?_of_block (w := w) (w' := w') (a := ⟨b, o, none⟩) (hb b (h.memBlock hu))
  one := h.one
  shp := fun b e n hx => by
    obtain ⟨arr, fz, h1, h2⟩ := h.shp b e n hx
    exact ⟨arr, fz, by rw [hb b (h.shb hx)]; exact h1, h2⟩
  glob := h.glob

theorem Ext.grow {G : Gh} {w : World} (k : Nat) (os : Array Obj) : Ext G w G (Sort.grow (w.drewN k) os) :=
  ⟨GExt.refl G, rfl, rfl, rfl, by simp [Sort.size_grow], fun b hb _ => Sort.heap_grow_old (w.drewN k) os hb, fun _ _ _ h => .inl h, fun s hs _ hb => .inl ⟨s, hs, hb⟩⟩

/-- A whole number's numeral. -/
def itoaF (n : Int) : Option Str := if -9223372036854775808 ≤ n ∧ n ≤ 9223372036854775807 then some (Lib.itoa n) else none

theorem dItoa_of {P : Program} {E : Glob} {f : FuncId} {g : Nat} (hc : ∀ (n : Int), -9223372036854775808 ≤ n → n ≤ 9223372036854775807 → ∀ w : World, Lib.TabIs P w "internal/strconv.uint64pow10" .u64 Lib.pow10Tab →
      Calls P f #[.int .i64 n] w fun e w' => e = .returned (.string ⟨(Lib.itoa n).toArray⟩) ∧ ∃ k os, w' = Sort.grow (w.drewN k) os)
    (hg : P.globalNamed "internal/strconv.uint64pow10" = some g) (hE : E g = some (Lib.pow10Tab.flatMap (cI .u64))) (n : Int) (r : Str) (hF : itoaF n = some r) : DFun P E f [.int .i64 n] (.str r) := by
  unfold itoaF at hF
  split at hF
  · rename_i hn
    cases hF
    intro G w vs hr hs
    simp only [RepL, Rep] at hr
    obtain ⟨u, us, rfl, rfl, rfl⟩ := hr
    refine (hc n hn.1 hn.2 w (tab_of_glob hs hg hE)).mono fun e w' ⟨he, k, os, hw⟩ => ?_
    subst hw
    exact ⟨_, .str (Lib.itoa n), [], G, he, by simp only [Rep]; exact ⟨_, by simp, rfl⟩, hs.same fun b hb => Sort.heap_grow_old (w.drewN k) os hb, Ext.grow k os, rfl, rfl⟩
  · cases hF
end Go.Proofs.YtllhdbdbdblimaaDoor.AW
