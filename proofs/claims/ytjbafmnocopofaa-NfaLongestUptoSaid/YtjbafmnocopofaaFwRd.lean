/-
  What an argument holds, by its type: readers with fuel, so that types that hold slices of themselves have one too.
-/
import Derived.Test.YtjbafmnocopofaaFwRow2
import Derived.Test.YtjbafmnocopofaaFwS8
set_option linter.unusedVariables false
namespace Go.Proofs.Ytjbafmnocopofaa.AW
open Go Go.RowKit Go.WideShapes Go.ChangeShapes Go.Deep
structure RdF {H : Type} {α : Type} (n : Nat) (enc : TypeId × Value → H) (P : Program) (W : World) (base : Nat) (t : TypeId) (c : α → List AV) (ok : α → Prop) (bk : α → Nat) : Prop where
  rd : ∀ {fuel : Nat} {cs : List Value} {x : DataW H × List MemPlace}, fuel ≤ n → DataW.trod enc P W base (fun _ => true) true fuel t cs = some x →
    ∃ a, RepL (G0 W) (c a) cs ∧ (∀ u ∈ cs, u.oneCell' = true) ∧ ok a ∧ bk a ≤ Rows.uptoBulk x.1
section
variable {H : Type} {enc : TypeId × Value → H} {P : Program} {W : World} {base : Nat} {t : TypeId} {n : Nat}
theorem RdF.all {α : Type} {c : α → List AV} {ok : α → Prop} {bk : α → Nat} (h : ∀ n, RdF n enc P W base t c ok bk) : RdOk enc P W base t c ok bk := ⟨fun {fuel cs x} e => (h fuel).rd (Nat.le_refl _) e⟩
theorem RdOk.fu {α : Type} {c : α → List AV} {ok : α → Prop} {bk : α → Nat} (h : RdOk enc P W base t c ok bk) : RdF n enc P W base t c ok bk := ⟨fun _ e => h.rd e⟩
theorem rfI {k : IntKind} (ht : P.underlying t = some (.int k)) : RdF n enc P W base t (cI k) (okI k) bk1 := (rdI ht).fu
theorem rfB (ht : P.underlying t = some .bool) : RdF n enc P W base t cB okT bk1 := (rdB ht).fu
theorem rfS (ht : P.underlying t = some .string) : RdF n enc P W base t cS okT bkS := (rdS ht).fu
def okA {n : Nat} (k : IntKind) (a : Arr n Int) : Prop := ∀ y ∈ a.l, okI k y
theorem bulk_pos (d : DataW H) : 1 ≤ Rows.uptoBulk d := by
  cases d with
  | lit l => cases l <;> simp [Rows.uptoBulk]
  | nil => simp [Rows.uptoBulk]
  | ptr d => simp [Rows.uptoBulk]
  | slice elems spare => simp [Rows.uptoBulk]
  | agg parts => simp [Rows.uptoBulk]
  | iface t d => simp [Rows.uptoBulk]
  | map entries => simp [Rows.uptoBulk]
  | held h => simp [Rows.uptoBulk]
/-- An array of whole numbers. -/
theorem rfA {e : TypeId} {m : Nat} {k : IntKind} {c : Arr m Int → List AV} (hc' : ∀ a, c a = cA (cI k) a) (ht : P.underlying t = some (.array m e)) (he : P.underlying e = some (.int k)) (hc : P.cellsOf e = 1) (hct : P.cellsOf t = m) : RdF n enc P W base t c (okA k) bk1 := ⟨fun {fuel cs x} _ h => by
  obtain ⟨l, hl, rfl, hw⟩ := open_arr ht he hc hct h
  refine ⟨⟨l, hl⟩, ?_, ?_, hw, bulk_pos _⟩
  · rw [hc']; exact repl_ints k l
  · intro u hu
    obtain ⟨z, _, rfl⟩ := List.mem_map.1 hu
    rfl⟩
/-- A slice, as a part of something. -/
theorem rfSl {α : Type} {e : TypeId} {es : Nat} {c : α → List AV} {ok : α → Prop} {bk : α → Nat} {f : α → AV} (ht : P.underlying t = some (.slice e)) (hc : P.cellsOf e = es) (hes : 0 < es)
    (re : RdF n enc P W base e c ok bk) (hf : ∀ a us, RepL (G0 W) (c a) us → us.length = es → ∃ u : Value, Rep (G0 W) (f a) u ∧ u.cells.toList = us) : RdF (n + 1) enc P W base t (cSl es f) (fun o => ∀ x ∈ ls o, ok x) (bkSl bk) := ⟨fun {fuel cs x} hle hfu => by
  rcases DataW.trod_slice ht hfu with ⟨hcs, hx⟩ | ⟨a, len, cap, elems, rest, n0, hfuel, hcs, hd, hb, hl, hcm, hlen, hel, hsp0, _⟩
  · subst hcs
    cases hx
    exact ⟨none, by simp only [cSl, slV, RepL, Rep]; exact ⟨_, _, rfl, rfl, rfl⟩, by simp [Value.oneCell'], fun _ h => by simp [ls] at h, by simp [bkSl, ls, Rows.uptoBulk]⟩
  · subst hcs
    cases hd
    obtain ⟨b, off, spot⟩ := a
    have hspot : spot = none ∨ cap = 0 := by
      by_cases hcap : cap = 0
      · exact .inr hcap
      · left
        have h0 : ∃ y, (W.cells? base ((⟨b, off, spot⟩ : Addr).add (0 * P.cellsOf e)) (P.cellsOf e)).bind (DataW.trod enc P W base (fun _ => true) true n0 e) = some y := by
          by_cases hl0 : 0 < len
          · have := hel 0 hl0
            rw [this]
            exact ⟨elems[0]'(by omega), by simp⟩
          · obtain ⟨hr1, hr2⟩ := hsp0 rfl
            have := hr2 0 (by omega)
            have e0 : len + 0 = 0 := by omega
            rw [e0] at this
            rw [this]
            exact ⟨rest[0]'(by omega), by simp⟩
        obtain ⟨y, hy⟩ := h0
        obtain ⟨cs', h1, _⟩ := Option.bind_eq_some_iff.1 hy
        obtain ⟨_, hlen', hce⟩ := World.cells?_some h1
        have := hce 0 (by omega)
        have h2 : (((⟨b, off, spot⟩ : Addr).add (0 * P.cellsOf e)).add 0) = ⟨b, off, spot⟩ := by simp [Addr.add]
        rw [h2] at this
        have h3 : cs'[0]? = some (cs'[0]'(by omega)) := by simp
        rw [h3] at this
        exact World.cell?_spot this
    obtain ⟨l, hll, hq⟩ := ex_list (Q := fun i (y : α) => ∃ us : List Value, RepL (G0 W) (c y) us ∧ us.length = es ∧ (∀ j z, us[j]? = some z → M0 W b (off + i * es + j) = some z) ∧ ok y ∧ bk y ≤ Rows.uptoBulk ((elems.getD i (.nil, [])).1)) len fun i hi => by
      have hcap : ¬ cap = 0 := by omega
      obtain rfl : spot = none := hspot.resolve_right hcap
      have h0 := hel i hi
      have h3 : elems[i]? = some (elems[i]'(by omega)) := by simp
      rw [h3] at h0
      obtain ⟨cs', h1, h2⟩ := Option.bind_eq_some_iff.1 h0
      rw [hc] at h1
      obtain ⟨_, hlen', hce⟩ := World.cells?_some h1
      obtain ⟨y, y1, y2, y3, y4⟩ := re.rd (by omega) h2
      refine ⟨y, cs', y1, hlen', fun j z hz => ?_, y3, by simpa [List.getD, h3] using y4⟩
      have hj : j < es := by have := lt_of_getElem? hz; omega
      have := hce j hj
      rw [hz] at this
      have e2 : ((⟨b, off, none⟩ : Addr).add (i * es)).add j = ⟨b, off + i * es + j, none⟩ := by rw [addr_add, addr_add]
      rw [e2] at this
      exact M0_some this (y2 z (List.mem_of_getElem? hz))
    refine ⟨some l, ?_, by simp [Value.oneCell'], ?_, ?_⟩
    · have hr : Rep (G0 W) (slV es f (some l)) (.slice (some ⟨b, off, spot⟩) len cap) := by
        simp only [slV, Rep]
        refine ⟨b, off, cap, reps_list l off fun i y hy => ?_, by simp; omega, trivial, spot, hspot.imp_right fun h => ⟨h, trivial⟩, by simp; omega⟩
        obtain ⟨us, u1, u2, u3, _, _⟩ := hq i y hy
        obtain ⟨u, w1, w2⟩ := hf y us u1 u2
        refine ⟨u, w1, by have := congrArg List.length w2; simpa [u2] using this, fun j z hz => u3 j z ?_⟩
        rw [← w2]; simpa using hz
      simp only [cSl]
      exact repl_cons hr repl_nil
    · intro y hy
      obtain ⟨i, hi⟩ := List.getElem?_of_mem hy
      obtain ⟨_, _, _, _, h4, _⟩ := hq i y hi
      exact h4
    · have := sum_le (bk := bk) (D := fun i => (elems.getD i (.nil, [])).1) l 0 fun i y hy => by
        obtain ⟨_, _, _, _, _, h5⟩ := hq i y hy
        simpa using h5
      have e3 : (List.range l.length).map (fun i => (elems.getD (0 + i) (.nil, [])).1) = elems.map (·.1) := by
        apply List.ext_getElem?
        intro i
        simp only [List.getElem?_map, hll, Nat.zero_add]
        by_cases hi : i < len
        · rw [List.getElem?_range hi]
          have h3 : elems[i]? = some (elems[i]'(by omega)) := by simp
          simp [List.getD, h3]
        · rw [List.getElem?_eq_none (by simp; omega), List.getElem?_eq_none (by omega)]
          rfl
      rw [e3] at this
      simp only [bkSl, ls, Option.getD_some, Rows.uptoBulk]
      omega⟩
/-- A struct's fields from one on. -/
structure RdT {γ : Type} (n : Nat) (enc : TypeId × Value → H) (P : Program) (W : World) (base : Nat) (fs : Array Field) (i o m : Nat) (c : γ → List AV) (ok : γ → Prop) (bk : γ → Nat) : Prop where
  rd : ∀ {n0 : Nat} {cs : List Value} {xs : List (DataW H × List MemPlace)}, n0 ≤ n → cs.length = m → xs.length = fs.size → (∀ (i : Nat) (f : Field), fs[i]? = some f → DataW.trod enc P W base (fun _ => true) true n0 f.type ((cs.drop f.offset).take (P.cellsOf f.type)) = xs[i]?) →
    ∃ a, RepL (G0 W) (c a) (cs.drop o) ∧ (∀ u ∈ cs.drop o, u.oneCell' = true) ∧ ok a ∧ bk a ≤ Rows.uptoBulkAll ((xs.drop i).map (·.1))
theorem rtNil {fs : Array Field} {m i : Nat} : RdT n enc P W base fs i m m (fun _ : Unit => []) (fun _ => True) (fun _ => 0) := ⟨fun _ hl _ _ => ⟨(), by rw [List.drop_of_length_le (by omega)]; exact repl_nil, by rw [List.drop_of_length_le (by omega)]; simp, trivial, Nat.zero_le _⟩⟩
theorem rtCons {fs : Array Field} {m i o o' : Nat} {f : Field} {α γ : Type} {c : α → List AV} {ok : α → Prop} {bk : α → Nat} {c' : γ → List AV} {ok' : γ → Prop} {bk' : γ → Nat} (hf : fs[i]? = some f) (ho : f.offset = o) (ho' : o + P.cellsOf f.type = o')
    (h : RdF n enc P W base f.type c ok bk) (h' : RdT n enc P W base fs (i + 1) o' m c' ok' bk') : RdT n enc P W base fs i o m (fun a : α × γ => c a.1 ++ c' a.2) (fun a => ok a.1 ∧ ok' a.2) (fun a => bk a.1 + bk' a.2) := ⟨fun {n0 cs xs} hn hl hx each => by
  have hi : i < fs.size := (Array.getElem?_eq_some_iff.1 hf).1
  have h0 := each i f hf
  have hxi : xs[i]? = some (xs[i]'(by omega)) := by simp
  rw [hxi, ho] at h0
  obtain ⟨a, a1, a2, a3, a4⟩ := h.rd hn h0
  obtain ⟨b, b1, b2, b3, b4⟩ := h'.rd hn hl hx each
  have e : cs.drop o = (cs.drop o).take (P.cellsOf f.type) ++ cs.drop o' := by
    rw [← ho', ← List.drop_drop, List.take_append_drop]
  refine ⟨(a, b), ?_, ?_, ⟨a3, b3⟩, ?_⟩
  · rw [e]; exact repL_append a1 b1
  · intro u hu
    rw [e] at hu
    rcases List.mem_append.1 hu with k | k
    · exact a2 u k
    · exact b2 u k
  · have e2 : xs.drop i = xs[i]'(by omega) :: xs.drop (i + 1) := List.drop_eq_getElem_cons (by omega)
    rw [e2, List.map_cons, Rows.uptoBulkAll]
    exact Nat.add_le_add a4 b4⟩
/-- A struct. -/
theorem rfT {fs : Array Field} {m : Nat} {γ δ : Type} {c : γ → List AV} {ok : γ → Prop} {bk : γ → Nat} {c' : δ → List AV} {ok' : δ → Prop} {bk' : δ → Nat} (mk : γ → δ) (ht : P.underlying t = some (.struct fs)) (hm : P.cellsOf t = m) (h : RdT n enc P W base fs 0 0 m c ok bk)
    (hc : ∀ a, c' (mk a) = c a) (hok : ∀ a, ok a → ok' (mk a)) (hbk : ∀ a, bk' (mk a) ≤ bk a + 1) : RdF (n + 1) enc P W base t c' ok' bk' := ⟨fun {fuel cs x} hle hfu => by
  obtain ⟨xs, n0, hfuel, rfl, hlen, hxl, each⟩ := DataW.trod_struct ht hfu
  obtain ⟨a, a1, a2, a3, a4⟩ := h.rd (by omega) (by omega) hxl each
  rw [List.drop_zero] at a1 a2
  rw [List.drop_zero] at a4
  refine ⟨mk a, by rw [hc]; exact a1, a2, hok a a3, ?_⟩
  have := hbk a
  simp only [Rows.uptoBulk]
  omega⟩
theorem RdF.mono {α : Type} {c : α → List AV} {ok : α → Prop} {bk : α → Nat} {m : Nat} (h : RdF n enc P W base t c ok bk) (hm : m ≤ n) : RdF m enc P W base t c ok bk := ⟨fun hle e => h.rd (Nat.le_trans hle hm) e⟩
/-- An argument that is read whole: a struct, an array. -/
theorem arg_agg {α : Type} {c : α → List AV} {ok : α → Prop} {bk : α → Nat} {v : Value} {d : DataW H} {ps : List MemPlace} (hv : ∃ cs, v = .agg cs) (re : RdOk enc P W base t c ok bk) (h : DataW.Trod enc P W base (fun _ => true) true t v d ps) :
    ∃ a, Rep (G0 W) (.agg (c a)) v ∧ ok a ∧ bk a ≤ Rows.uptoBulk d := by
  obtain ⟨cs, rfl⟩ := hv
  obtain ⟨fuel, hfu⟩ := h
  obtain ⟨a, h1, h2, h3, h4⟩ := re.rd hfu
  refine ⟨a, ?_, h3, h4⟩
  simp only [Rep]
  exact ⟨cs.toList, h1, by simp⟩
theorem okWide_st {t : TypeId} {fs : Array Field} {r : Reach} {b0 : Nat} {v : Value} (ht : P.underlying t = some (.struct fs)) (hval : Value.okWide P W r b0 t v) : ∃ cs, v = .agg cs := by
  simp only [Value.okWide, ht] at hval
  obtain ⟨cs, h, _⟩ := hval
  exact ⟨cs, h⟩
/-- An argument that is a slice. -/
theorem arg_slF {α : Type} {es : Nat} {f : α → AV} {ok : Sl α → Prop} {bk : Sl α → Nat} {b0 : Nat} {v : Value} {d : DataW H} {ps : List MemPlace} {e : TypeId} (ht : P.underlying t = some (.slice e)) (hval : Value.okWide P W .any b0 t v) (re : RdOk enc P W base t (cSl es f) ok bk) (h : DataW.Trod enc P W base (fun _ => true) true t v d ps) :
    ∃ o : Sl α, Rep (G0 W) (slV es f o) v ∧ ok o ∧ bk o ≤ Rows.uptoBulk d := by
  obtain ⟨a, len, cap, rfl⟩ := okWide_slice ht hval
  obtain ⟨fuel, hfu⟩ := h
  obtain ⟨o, h1, h2, h3, h4⟩ := re.rd hfu
  refine ⟨o, ?_, h3, h4⟩
  simp only [cSl, RepL, Value.cells] at h1
  obtain ⟨u, us, e, hr, _⟩ := h1
  cases e
  exact hr
end
end Go.Proofs.Ytjbafmnocopofaa.AW
