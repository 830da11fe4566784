/-
  From a law's plain function to its row, where the row lists variables and bounds the bulk of what it reads.
-/
import Derived.Test.YtjbafmnocopofaaFwRow
import Derived.Test.YtjbafmnocopofaaFwS4
import Derived.Test.YtjbafmnocopofaaRows
import Derived.Deep.Slices
import Derived.Deep.DeepHandedRow
import Derived.Lib.LaidTab
set_option linter.unusedVariables false
namespace Go.Proofs.Ytjbafmnocopofaa.AW
open Go Go.RowKit Go.WideShapes Go.ChangeShapes Go.Deep

theorem storeE {E : Glob} {W : World} (hE : GlobOk E (G0 W)) : StoreRel E (G0 W) [] W :=
  let h := store0 W
  ⟨h.len, h.obj, h.apart, h.mem, h.one, h.shp, hE⟩
/-- A law that answers true. -/
theorem law_callsG {P : Program} {E : Glob} {f : FuncId} {ds : List AV} {vs : List Value} {W : World} (hE : GlobOk E (G0 W)) (h : DFun P E f ds (.bool true)) (hr : RepL (G0 W) ds vs) :
    Calls P f vs.toArray W fun e W' => e = .returned (.bool true) ∧ Below W.heap.size W W' := by
  refine (h (G0 W) W vs hr (storeE hE)).mono fun e W' ⟨u, r, st', G', he, hr', hs', hext, hd, hk⟩ => ?_
  have hrr := strip_rep (G := G') (G' := G') (fun _ _ _ h => h) hd hr'
  have e1 : r.strip = .bool true := hk
  rw [e1] at hrr
  simp only [Rep] at hrr
  subst hrr
  exact ⟨he, hext.os, hext.tape, hext.output, hext.size, fun k hk => hext.block k hk fun s hs => by simp [G0] at hs⟩

/-- One of the listed variables. -/
theorem laid_at {P : Program} {W : World} : ∀ {laid : List (String × DataW Unit)} {ps : List MemPlace}, DataW.LaidVars P W laid ps → ∀ (i : Nat) {name : String} {d : DataW Unit}, laid[i]? = some (name, d) →
    ∃ g t cs fuel p, P.globalNamed name = some g ∧ (P.globals[g]?).map (·.type) = some t ∧ W.var? P name = some cs ∧ DataW.trod (fun _ => ()) P W 0 (fun _ => true) false fuel t cs.toList = some (d, p)
  | [], _, _, i, _, _, hi => by simp at hi
  | (n, d0) :: r, ps, h, 0, name, d, hi => by
    simp at hi
    obtain ⟨rfl, rfl⟩ := hi
    obtain ⟨g, t, cs, fuel, p, q, h1, h2, h3, h4, _, _⟩ := h
    exact ⟨g, t, cs, fuel, p, h1, h2, h3, h4⟩
  | (n, d0) :: r, ps, h, i + 1, name, d, hi => by
    obtain ⟨g, t, cs, fuel, p, q, _, _, _, _, h5, _⟩ := h
    exact laid_at h5 i (by simpa using hi)
theorem glob_at {P : Program} {W : World} {laid : List (String × DataW Unit)} (h : laidMet P laid W) (i : Nat) {name : String} {d : DataW Unit} (hi : laid[i]? = some (name, d)) {g : Nat} {t : TypeId} (hg : P.globalNamed name = some g) (ht : (P.globals[g]?).map (·.type) = some t) {cells : List AV}
    (hcs : ∀ (cs : List Value) (fuel : Nat) (p : List MemPlace), DataW.trod (fun _ => ()) P W 0 (fun _ => true) false fuel t cs = some (d, p) → RepL { slots := [], M := M0 W } cells cs ∧ ∀ u ∈ cs, u.oneCell' = true) :
    ∃ us, RepL { slots := [], M := (G0 W).M } cells us ∧ (∀ j v, us[j]? = some v → (G0 W).M g j = some v) ∧ ∃ e, (G0 W).sh g = some (e, us.length) := by
  obtain ⟨ps, hl, _, _⟩ := h
  obtain ⟨g', t', cs, fuel, p, h1, h2, h3, h4⟩ := laid_at hl i hi
  obtain rfl := Option.some.inj (hg.symm.trans h1)
  obtain rfl := Option.some.inj (ht.symm.trans h2)
  obtain ⟨k1, k2⟩ := hcs cs.toList fuel p h4
  have h5 := h3
  unfold World.var? at h5
  rw [hg] at h5
  simp only [Option.bind_some] at h5
  split at h5
  · rename_i arr e fz hb
    cases h5
    refine ⟨cs.toList, k1, fun j v hv => ?_, e, ?_⟩
    · have hc : W.cell? ⟨g, j, none⟩ = some v := by simp only [World.cell?, hb, Option.isSome_none, Bool.false_eq_true, if_false]; simpa using hv
      exact M0_some hc (k2 v (List.mem_of_getElem? hv))
    · simp only [G0, shW, hb, Array.length_toList]
  · cases h5
theorem cells_ints {P : Program} {W : World} {t e : TypeId} {n : Nat} {k : IntKind} {zs : List Int} (ht : P.underlying t = some (.array n e)) (he : P.underlying e = some (.int k)) (hce : P.cellsOf e = 1) (hct : P.cellsOf t = n) :
    ∀ (cs : List Value) (fuel : Nat) (p : List MemPlace), DataW.trod (fun _ => ()) P W 0 (fun _ => true) false fuel t cs = some ((.agg (zs.map fun z => .lit (.int k z)) : DataW Unit), p) → RepL { slots := [], M := M0 W } (zs.flatMap (cI k)) cs ∧ ∀ u ∈ cs, u.oneCell' = true := by
  intro cs fuel p h
  have hcs := Lib.cells_of_tab (zs := zs) ht he hce hct h
  subst hcs
  constructor
  · clear h
    induction zs with
    | nil => exact repl_nil
    | cons z zs ih => exact repl_cons (rep_int0 k z) ih
  · intro u hu
    obtain ⟨z, _, rfl⟩ := List.mem_map.1 hu
    rfl
theorem repL_of_get {G : Gh} : ∀ {vs : List AV} {us : List Value}, us.length = vs.length → (∀ (i : Nat) v u, vs[i]? = some v → us[i]? = some u → Rep G v u) → RepL G vs us
  | [], us, hl, _ => by simp only [RepL]; exact List.eq_nil_of_length_eq_zero hl
  | v :: vs, [], hl, _ => by simp at hl
  | v :: vs, u :: us, hl, h => by
    simp only [RepL]
    exact ⟨u, us, rfl, h 0 v u rfl rfl, repL_of_get (by simpa using hl) fun i v' u' hv hu => h (i + 1) v' u' (by simpa using hv) (by simpa using hu)⟩
theorem cells_strs {P : Program} {W : World} {t e : TypeId} {n : Nat} {ss : List Str} (ht : P.underlying t = some (.array n e)) (he : P.underlying e = some .string) (hce : P.cellsOf e = 1) (hct : P.cellsOf t = n) :
    ∀ (cs : List Value) (fuel : Nat) (p : List MemPlace), DataW.trod (fun _ => ()) P W 0 (fun _ => true) false fuel t cs = some ((.agg (ss.map fun s => .lit (.string s)) : DataW Unit), p) → RepL { slots := [], M := M0 W } (ss.flatMap cS) cs ∧ ∀ u ∈ cs, u.oneCell' = true := by
  intro cs fuel p h
  cases fuel with
  | zero => simp [DataW.trod] at h
  | succ fuel =>
    simp only [DataW.trod, ht, hce, hct, Nat.mul_one] at h
    split at h
    · rename_i hl
      obtain ⟨xs, hm, hx⟩ := Option.map_eq_some_iff.1 h
      have hxs : xs.map (·.1) = ss.map fun s => (DataW.lit (.string s) : DataW Unit) := by
        have := congrArg Prod.fst hx
        simpa using this
      have hxl : xs.length = n := by simpa using Lib.mapM_length hm
      have hsl : ss.length = n := by
        have := congrArg List.length hxs
        simp at this
        omega
      have hfl : ss.flatMap cS = ss.map AV.str := by
        clear hxs hsl h hx
        induction ss with
        | nil => rfl
        | cons s ss ih => simp only [List.flatMap_cons, List.map_cons, ih]; rfl
      have key : ∀ i, i < n → ∃ b : ByteArray, cs[i]? = some (.string b) ∧ ss[i]? = some b.data.toList := fun i hi => by
        obtain ⟨b, hb, hf⟩ := Lib.mapM_at hm i i (by simp [hi])
        obtain ⟨s, hc, rfl, _⟩ := DataW.trod_string he hf
        have h1 : cs[i]? = some (.string s) := by
          have := congrArg (·[0]?) hc
          simpa [List.getElem?_take, List.getElem?_drop] using this
        have h2 : (xs.map (·.1))[i]? = some (DataW.lit (.string s.data.toList) : DataW Unit) := by simp [hb]
        rw [hxs] at h2
        simp only [List.getElem?_map, Option.map_eq_some_iff, DataW.lit.injEq, Lit.string.injEq] at h2
        obtain ⟨z', hz', e⟩ := h2
        exact ⟨s, h1, by rw [hz', e]⟩
      constructor
      · rw [hfl]
        refine repL_of_get (by simp; omega) fun i v u hv hu => ?_
        have hi : i < n := by have := lt_of_getElem? hu; omega
        obtain ⟨b, h1, h2⟩ := key i hi
        rw [h1] at hu; cases hu
        simp [h2] at hv
        subst hv
        simp only [Rep]
        exact ⟨b, rfl, rfl⟩
      · intro u hu
        obtain ⟨i, hi⟩ := List.getElem?_of_mem hu
        obtain ⟨b, h1, _⟩ := key i (by have := lt_of_getElem? hi; omega)
        rw [h1] at hi; cases hi; rfl
    · cases h

/-! ### What an argument holds, by its type -/
structure RdOk {H : Type} {α : Type} (enc : TypeId × Value → H) (P : Program) (W : World) (base : Nat) (t : TypeId) (c : α → List AV) (ok : α → Prop) (bk : α → Nat) : Prop where
  rd : ∀ {fuel : Nat} {cs : List Value} {x : DataW H × List MemPlace}, DataW.trod enc P W base (fun _ => true) true fuel t cs = some x →
    ∃ a, RepL (G0 W) (c a) cs ∧ (∀ u ∈ cs, u.oneCell' = true) ∧ ok a ∧ bk a ≤ Rows.uptoBulk x.1
section
variable {H : Type} {enc : TypeId × Value → H} {P : Program} {W : World} {base : Nat} {t : TypeId}
theorem rdI {k : IntKind} (ht : P.underlying t = some (.int k)) : RdOk enc P W base t (cI k) (okI k) bk1 := ⟨fun h => by
  obtain ⟨n, rfl, rfl, hw⟩ := DataW.trod_int ht h
  exact ⟨n, repl_cons (rep_int0 k n) repl_nil, by simp [Value.oneCell'], hw, by simp [bk1, Rows.uptoBulk]⟩⟩
theorem rdB (ht : P.underlying t = some .bool) : RdOk enc P W base t cB okT bk1 := ⟨fun h => by
  obtain ⟨b, rfl, rfl⟩ := DataW.trod_bool ht h
  exact ⟨b, repl_cons (rep_bool0 b) repl_nil, by simp [Value.oneCell'], trivial, by simp [bk1, Rows.uptoBulk]⟩⟩
theorem rdS (ht : P.underlying t = some .string) : RdOk enc P W base t cS okT bkS := ⟨fun h => by
  obtain ⟨s, rfl, rfl, _⟩ := DataW.trod_string ht h
  exact ⟨s.data.toList, repl_cons (rep_str0 s) repl_nil, by simp [Value.oneCell'], trivial, by simp [bkS, Rows.uptoBulk]⟩⟩
/-- A struct of two fields. -/
theorem rd2 {α β γ : Type} {f0 f1 : Field} {c0 : α → List AV} {c1 : β → List AV} {ok0 : α → Prop} {ok1 : β → Prop} {bk0 : α → Nat} {bk1 : β → Nat} {c : γ → List AV} {ok : γ → Prop} {bk : γ → Nat} (mk : α → β → γ)
    (ht : P.underlying t = some (.struct #[f0, f1])) (h0 : f0.offset = 0) (hl0 : P.cellsOf f0.type = f1.offset) (hl : P.cellsOf f0.type + P.cellsOf f1.type = P.cellsOf t) (r0 : RdOk enc P W base f0.type c0 ok0 bk0) (r1 : RdOk enc P W base f1.type c1 ok1 bk1)
    (hc : ∀ a b, c (mk a b) = c0 a ++ c1 b) (hok : ∀ a b, ok0 a → ok1 b → ok (mk a b)) (hbk : ∀ a b, bk (mk a b) ≤ bk0 a + bk1 b + 1) : RdOk enc P W base t c ok bk := ⟨fun {fuel cs x} h => by
  obtain ⟨y0, y1, n, rfl, hlen, g0, g1⟩ := trod_struct2 ht h
  rw [h0, List.drop_zero] at g0
  obtain ⟨a, a1, a2, a3, a4⟩ := r0.rd g0
  obtain ⟨b, b1, b2, b3, b4⟩ := r1.rd g1
  have e : cs = cs.take (P.cellsOf f0.type) ++ (cs.drop f1.offset).take (P.cellsOf f1.type) := by
    rw [← hl0, List.take_of_length_le (l := cs.drop (P.cellsOf f0.type)) (by simp; omega), List.take_append_drop]
  refine ⟨mk a b, ?_, ?_, hok a b a3 b3, ?_⟩
  · rw [hc, e]; exact repL_append a1 b1
  · intro u hu
    rw [e] at hu
    rcases List.mem_append.1 hu with h' | h'
    · exact a2 u h'
    · exact b2 u h'
  · have := hbk a b
    simp only [Rows.uptoBulk, Rows.uptoBulkAll]
    omega⟩

theorem ex_list {α : Type} {Q : Nat → α → Prop} : ∀ n : Nat, (∀ i, i < n → ∃ x, Q i x) → ∃ l : List α, l.length = n ∧ ∀ (i : Nat) x, l[i]? = some x → Q i x
  | 0, _ => ⟨[], rfl, fun i x h => by simp at h⟩
  | n + 1, h => by
    obtain ⟨l, hl, hq⟩ := ex_list n fun i hi => h i (by omega)
    obtain ⟨x, hx⟩ := h n (by omega)
    refine ⟨l ++ [x], by simp [hl], fun i y hy => ?_⟩
    rw [List.getElem?_append] at hy
    split at hy
    · exact hq i y hy
    · have : i = n := by
        have := lt_of_getElem? hy
        simp at this; omega
      subst this
      simp [hl] at hy
      subst hy; exact hx
theorem reps_list {α : Type} {es b : Nat} {f : α → AV} : ∀ (l : List α) (o : Nat), (∀ (i : Nat) x, l[i]? = some x → ∃ u : Value, Rep (G0 W) (f x) u ∧ u.cells.size = es ∧ ∀ j y, u.cells[j]? = some y → M0 W b (o + i * es + j) = some y) → RepS (G0 W) es b o (l.map f)
  | [], _, _ => by simp only [List.map_nil, RepS]
  | x :: l, o, h => by
    simp only [List.map_cons, RepS]
    obtain ⟨u, h1, h2, h3⟩ := h 0 x rfl
    refine ⟨⟨u, h1, h2, fun j y hy => by
      have := h3 j y hy
      show M0 W b (o + j) = some y
      simpa using this⟩, reps_list l (o + es) fun i y hy => ?_⟩
    obtain ⟨u, k1, k2, k3⟩ := h (i + 1) y (by simpa using hy)
    refine ⟨u, k1, k2, fun j z hz => ?_⟩
    have := k3 j z hz
    rw [Nat.add_mul, Nat.one_mul] at this
    rwa [show o + es + i * es + j = o + (i * es + es) + j by omega]
theorem sum_le {α : Type} {bk : α → Nat} {D : Nat → DataW H} : ∀ (l : List α) (k : Nat), (∀ (i : Nat) x, l[i]? = some x → bk x ≤ Rows.uptoBulk (D (k + i))) → (l.map bk).sum ≤ Rows.uptoBulkAll ((List.range l.length).map fun i => D (k + i))
  | [], k, _ => by simp
  | x :: l, k, h => by
    have h0 := h 0 x rfl
    have ih := sum_le l (k + 1) fun i y hy => by
      have := h (i + 1) y (by simpa using hy)
      rwa [show k + 1 + i = k + (i + 1) by omega]
    have e : (List.range (x :: l).length).map (fun i => D (k + i)) = D (k + 0) :: (List.range l.length).map fun i => D (k + 1 + i) := by
      rw [List.length_cons, List.range_succ_eq_map, List.map_cons, List.map_map]
      congr 1
      apply List.map_congr_left
      intro i _
      simp only [Function.comp]
      rw [show k + (i + 1) = k + 1 + i by omega]
    rw [e]
    simp only [List.map_cons, List.sum_cons, Rows.uptoBulkAll]
    omega
/-- A slice that is handed in. -/
theorem arg_sl {α : Type} {e : TypeId} {es : Nat} {c : α → List AV} {ok : α → Prop} {bk : α → Nat} {f : α → AV} {b0 : Nat} {v : Value} {d : DataW H} {ps : List MemPlace} (ht : P.underlying t = some (.slice e)) (hc : P.cellsOf e = es)
    (re : RdOk enc P W base e c ok bk) (hf : ∀ a us, RepL (G0 W) (c a) us → us.length = es → ∃ u : Value, Rep (G0 W) (f a) u ∧ u.cells.toList = us)
    (hval : Value.okWide P W .any b0 t v) (h : DataW.Trod enc P W base (fun _ => true) true t v d ps) : ∃ o : Sl α, Rep (G0 W) (slV es f o) v ∧ (∀ x ∈ ls o, ok x) ∧ bkSl bk o ≤ Rows.uptoBulk d := by
  obtain ⟨a, len, cap, rfl⟩ := okWide_slice ht hval
  obtain ⟨fuel, hfu⟩ := h
  rcases open_slice ht hfu with ⟨hcs, hx⟩ | ⟨x, l, c', m, n, D, Pl, hcs, _, hl, _, hm, hd, hcell⟩
  · simp [Value.cells] at hcs
    obtain ⟨rfl, rfl, rfl⟩ := hcs
    cases hx
    exact ⟨none, by simp only [slV, Rep], fun _ h => by simp [ls] at h, by simp [bkSl, ls, Rows.uptoBulk]⟩
  · simp [Value.cells] at hcs
    obtain ⟨rfl, rfl, rfl⟩ := hcs
    simp only [if_true] at hm
    cases hd
    have hspot : x.spot = none := by
      simp only [Value.okWide, ht, Cell.okWide, Cell.ok] at hval
      exact hval.2.2.2.1
    obtain ⟨b, off, spot⟩ := x
    simp only at hspot
    subst hspot
    obtain ⟨l, hll, hq⟩ := ex_list (Q := fun i (y : α) => ∃ us : List Value, RepL (G0 W) (c y) us ∧ us.length = es ∧ (∀ j z, us[j]? = some z → M0 W b (off + i * es + j) = some z) ∧ ok y ∧ bk y ≤ Rows.uptoBulk (D i)) len fun i hi => by
      obtain ⟨cs', h1, h2⟩ := hcell i (by omega)
      rw [hc] at h1
      obtain ⟨_, hlen, hce⟩ := World.cells?_some h1
      obtain ⟨y, y1, y2, y3, y4⟩ := re.rd h2
      refine ⟨y, cs', y1, hlen, fun j z hz => ?_, y3, y4⟩
      have hj : j < es := by have := lt_of_getElem? hz; omega
      have := hce j hj
      rw [hz] at this
      have e2 : ((⟨b, off, none⟩ : Addr).add (i * es)).add j = ⟨b, off + i * es + j, none⟩ := by rw [addr_add, addr_add]
      rw [e2] at this
      exact M0_some this (y2 z (List.mem_of_getElem? hz))
    refine ⟨some l, ?_, ?_, ?_⟩
    · simp only [slV, Rep]
      refine ⟨b, off, cap, reps_list l off fun i y hy => ?_, by simp; omega, trivial, none, .inl rfl, by simp; omega⟩
      obtain ⟨us, u1, u2, u3, _, _⟩ := hq i y hy
      obtain ⟨u, w1, w2⟩ := hf y us u1 u2
      refine ⟨u, w1, by have := congrArg List.length w2; simpa [u2] using this, fun j z hz => u3 j z ?_⟩
      rw [← w2]; simpa using hz
    · intro y hy
      obtain ⟨i, hi⟩ := List.getElem?_of_mem hy
      obtain ⟨_, _, _, _, h4, _⟩ := hq i y hi
      exact h4
    · have := sum_le (bk := bk) (D := D) l 0 fun i y hy => by
        obtain ⟨_, _, _, _, _, h5⟩ := hq i y hy
        simpa using h5
      simp only [Nat.zero_add, hll] at this
      rw [show (List.range len).map (fun i => D i) = (List.range len).map D from rfl] at this
      simp only [bkSl, ls, Option.getD_some, Rows.uptoBulk]
      omega
theorem agg_rep {α : Type} {c : α → List AV} {es : Nat} : ∀ (a : α) (us : List Value), RepL (G0 W) (c a) us → us.length = es → ∃ u : Value, Rep (G0 W) (.agg (c a)) u ∧ u.cells.toList = us := fun a us h _ =>
  ⟨.agg us.toArray, by simp only [Rep]; exact ⟨us, h, rfl⟩, by simp [Value.cells]⟩
end
end Go.Proofs.Ytjbafmnocopofaa.AW
