/-
  Rows that are made, written to and appended to; rows of rows.
-/
import Derived.Test.YtjbafmnocopofaaFwS6
set_option linter.unusedVariables false
namespace Go.Proofs.Ytjbafmnocopofaa.AW
open Go

/-- A row, or none. -/
def rvV {α : Type} (es : Nat) (o : Sl α) (id : Nat) : AV := match o with
  | none => .nils
  | some l => .row id es 0 l.length
def rvC {α : Type} (c : α → List AV) (o : Sl α) : List AV := (ls o).flatMap c
def rvA {α : Type} (c : α → List AV) (id : Nat) (o : Sl α) : Asn := match o with
  | none => emp
  | some l => pt id (.cells (l.flatMap c))
def vset {α : Type} (o : Sl α) (i : Int) (x : α) : Sl α := o.map (fun l => l.set i.toNat x)

theorem rv_some {α : Type} {o : Sl α} {i : Int} {x : α} (h : ix (ls o) i = some x) : ∃ l, o = some l := by
  cases o with
  | none => have := ix_some h; simp [ls] at this
  | some l => exact ⟨l, rfl⟩
theorem SH.rvNil {st : Store} {L : List Asn} (hs : SH st L) {α : Type} (c : α → List AV) : SH st (rvA c 0 (none : Sl α) :: L) := hs.empt fun _ => rfl
theorem lrV_get {α : Type} {c : α → List AV} {es : Nat} (hc : ∀ x, (c x).length = es) {o : Sl α} {i : Int} {x : α} (h : ix (ls o) i = some x) : LR (rvC c o) (i.toNat * es) (c x) (c x) (rvC c o) := by
  have := lr_list hc (ls o) i.toNat x x (ix_some h).2.1
  rw [set_get_self _ _ _ (ix_some h).2.1] at this
  exact this
theorem ls_vset {α : Type} (o : Sl α) (i : Int) (x : α) : ls (vset o i x) = (ls o).set i.toNat x := by cases o <;> rfl
theorem lrV_set {α : Type} {c : α → List AV} {es : Nat} (hc : ∀ x, (c x).length = es) {o : Sl α} {i : Int} {x : α} (h : ix (ls o) i = some x) (y : α) : LR (rvC c o) (i.toNat * es) (c x) (c y) (rvC c (vset o i y)) := by
  have := lr_list hc (ls o) i.toNat x y (ix_some h).2.1
  rw [← ls_vset] at this
  exact this
theorem rvV_vset {α : Type} (es : Nat) (o : Sl α) (i : Int) (x : α) (id : Nat) : rvV es (vset o i x) id = rvV es o id := by cases o <;> simp [rvV, vset]
theorem rep0_flat {α : Type} (c : α → List AV) (z : α) : ∀ n, rep0 (c z) n = (List.replicate n z).flatMap c
  | 0 => rfl
  | n + 1 => by simp [rep0, List.replicate_succ, rep0_flat c z n]

/-- A part takes another's place. -/
theorem SH.repl {st : Store} {P : Asn} {L : List Asn} (hs : SH st (P :: L)) (j : Nat) (hj : j < L.length) : SH st (L.set j P) := by
  obtain ⟨a, b, h1, h2, h3, h4⟩ := hs
  obtain ⟨p, q, k1, k2, k3, k4⟩ := starL_at (List.getElem?_eq_getElem hj) h2
  have hap : PH.dj a p ∧ PH.dj a q := PH.dj_or.1 (fun i => by rw [← k4 i]; exact h3 i)
  have h5 := starL_put hj h1 k2 hap.2
  have h6 : PH.dj (PH.or a q) p := (PH.dj_or.2 ⟨hap.1.symm, k3⟩).symm
  refine starL_congr (fun i => ?_) (starL_mono h6 h5)
  have h7 : st[i]? = PH.or a b i := h4 i
  show _ = st[i]?
  rw [h7, PH.or_assoc]
  have h8 := PH.or_comm k3 i
  simp only [PH.or, k4 i] at h8 ⊢
  rw [h8]

section
variable {E : Glob} {tm : Fr} {st : Store} {x i : AX} {L : List Asn}
theorem SH.gv {α : Type} {c : α → List AV} {o : Sl α} {id : Nat} {n : Int} {y : α} (hs : SH st L) (j : Nat) (hj : L[j]? = some (rvA c id o)) (h : ix (ls o) n = some y) : st[id]? = some (.cells (rvC c o)) := by
  obtain ⟨l, rfl⟩ := rv_some h
  exact hs.g j hj
theorem e_lenV {α : Type} {es : Nat} {c : α → List AV} {o : Sl α} {id : Nat} (hs : SH st L) (j : Nat) (hj : L[j]? = some (rvA c id o)) (hx : tm.x x = rvV es o id) : evalAI E tm st (.len x) = some (.int .i64 (ls o).length, st) := by
  cases o with
  | none => simp only [ev_len, hx, rvV]; rfl
  | some l => exact e_lenR hx (hs.g j hj)
theorem e_iaddrV {α : Type} {es : Nat} {c : α → List AV} {o : Sl α} {id : Nat} {k : IntKind} {n : Int} {y : α} (hs : SH st L) (j : Nat) (hj : L[j]? = some (rvA c id o)) (hx : tm.x x = rvV es o id) (hi : tm.x i = .int k n) (h : ix (ls o) n = some y) : evalAI E tm st (.iaddrL es x i) = some (.ptr id (n.toNat * es), st) := by
  obtain ⟨l, rfl⟩ := rv_some h
  have h2 := ix_some h
  exact e_iaddrR hx (hs.g j hj) hi ⟨h2.1, by simpa [ls] using h2.2.2⟩
end

section
variable {X : Cx} {k : List KJ} {tm : Fr} {fr : List (Nat × AV)} {st : Store} {l : List AOp} {d : Nat} {L L' L1 : List Asn} {x y a : AX}
theorem mkV {α : Type} {es bytes : Nat} {c : α → List AV} (z : α) {z0 : List AV} {xl xc : AX} {kd kd' : IntKind} {n m : Int} (hs : SH st L) (hz : z0 = c z) (hl : (updL tm fr).x xl = .int kd n) (hc : (updL tm fr).x xc = .int kd' m) (hb : 0 ≤ n ∧ m = n ∧ (bytes : Int) * n ≤ 281474976710656)
    (hk : ∀ st id, SH st (rvA c id (some (List.replicate n.toNat z)) :: L) → W X (.ops l :: k) (updL tm ((d, (rvV es (some (List.replicate n.toNat z)) id)) :: fr)) st) : W X (.ops (⟨.some d, .none, .plain (.mkslice es bytes z0 xl xc true)⟩ :: l) :: k) (updL tm fr) st := by
  subst hz
  have h3 := hs.push (.cells ((List.replicate n.toNat z).flatMap c))
  refine W.po (v := rvV es (some (List.replicate n.toNat z)) st.length) (st' := st ++ [.cells ((List.replicate n.toNat z).flatMap c)]) ?_ (hk _ _ h3)
  simp only [evalAI, hl, hc, if_true]
  rw [if_pos hb, rep0_flat]
  simp [rvV]
theorem apV {α : Type} {es bytes : Nat} {f : α → AV} {c : α → List AV} {o : Sl α} {id : Nat} {ys : List α} (hs : SH st L) (j : Nat) (hj : L[j]? = some (rvA c id o)) (hx : (updL tm fr).x x = rvV es o id) (hy : appElems es st ((updL tm fr).x y) = some (ys.map f))
    (hb : ((ls o).length + ys.length) * bytes ≤ 140737488355328) (hc : ∀ x, (c x).length = es) (hf : ∀ x, (f x).cells = c x)
    {L' : Nat → List Asn} (hL : ∀ id, setL L j (rvA c id (sapp o ys)) = some (L' id))
    (hk : ∀ st id, SH st (L' id) → W X (.ops l :: k) (updL tm ((d, (rvV es (sapp o ys) id)) :: fr)) st) : W X (.ops (⟨.some d, .none, .plain (.appR es bytes x y)⟩ :: l) :: k) (updL tm fr) st := by
  have hcells : (ys.map f).flatMap AV.cells = ys.flatMap c := by
    rw [List.flatMap_map]; congr 1; funext z; exact hf z
  cases o with
  | none =>
    simp only [ls, Option.getD_none, List.length_nil, Nat.zero_add] at hb
    cases ys with
    | nil =>
      refine W.po (v := .nils) (st' := st) ?_ (hk st id ?_)
      · simp only [evalAI, hy, hx, rvV, List.map_nil]
      · have : L.set j (rvA c id (sapp (none : Sl α) [])) = L := set_get_self _ _ _ hj
        rw [setL_eq (hL id), this]; exact hs
    | cons z zs =>
      have e1 : rvA c st.length (sapp (none : Sl α) (z :: zs)) = pt st.length (.cells ((z :: zs).flatMap c)) := by simp [sapp, ls, rvA]
      refine W.po (v := rvV es (sapp none (z :: zs)) st.length) (st' := st ++ [.cells ((z :: zs).flatMap c)]) ?_ (hk _ st.length ?_)
      · simp only [evalAI, hy, hx, rvV, List.map_cons]
        rw [if_pos (by simpa using hb), ← List.map_cons, hcells]
        simp [sapp, ls]
      · rw [setL_eq (hL _), e1]
        refine hs.upd hj fun a b ha hd he => ⟨fun i => if i = st.length then some (.cells ((z :: zs).flatMap c)) else none, fun _ => rfl, fun i => ?_, fun i => ?_⟩
        · by_cases e : i = st.length
          · right
            have := he i
            rw [List.getElem?_eq_none (by omega)] at this
            exact (PH.or_none.1 this.symm).2
          · exact .inl (if_neg e)
        · by_cases e : i = st.length
          · rw [PH.or_l (a := fun i => if i = st.length then some (.cells ((z :: zs).flatMap c)) else none) (x := .cells ((z :: zs).flatMap c)) (if_pos e)]; subst e; simp
          · rw [PH.or_r (a := fun i => if i = st.length then some (.cells ((z :: zs).flatMap c)) else none) (if_neg e)]
            have h1 := he i
            rw [PH.or_r (ha i)] at h1
            rw [← h1]
            rcases Nat.lt_or_ge i st.length with h | h
            · rw [List.getElem?_append_left h]
            · rw [List.getElem?_eq_none (by simp; omega), List.getElem?_eq_none h]
  | some m =>
    have hg : st[id]? = some (.cells (m.flatMap c)) := hs.g j hj
    have hid := (List.getElem?_eq_some_iff.1 hg).1
    have hml : (m.flatMap c).length = m.length * es := by
      clear hg hs hk hb hj hL hx
      induction m with
      | nil => simp
      | cons z m ih => simp [hc, ih, Nat.add_mul, Nat.add_comm]
    refine W.po (v := rvV es (sapp (some m) ys) st.length) (st' := st.set id .dead ++ [.cells (m.flatMap c ++ ys.flatMap c)]) ?_ (hk _ st.length ?_)
    · simp only [evalAI, hy, hx, rvV, hg]
      rw [if_pos ⟨trivial, trivial, hml, by simpa [ls] using hb⟩, hcells]
      simp [sapp, ls]
    · rw [setL_eq (hL _)]
      have e1 : rvA c st.length (sapp (some m) ys) = pt st.length (.cells (m.flatMap c ++ ys.flatMap c)) := by simp [sapp, ls, rvA]
      rw [e1]
      have h2 := (SH.set (o' := .dead) hs hj).push (.cells (m.flatMap c ++ ys.flatMap c))
      rw [List.length_set] at h2
      have hjl : j < L.length := (List.getElem?_eq_some_iff.1 hj).1
      have h3 := h2.repl j (by simpa using hjl)
      rwa [List.set_set] at h3
/-- A store into a row, by the part's place. -/
theorem slv {α : Type} {c : α → List AV} {o o' : Sl α} {u : Int} {v v' : α} {id off n : Nat} {s s' : List AV} (hs : SH st L) (j : Nat) (hp : (updL tm fr).x a = .ptr id off) (hj : L[j]? = some (rvA c id o)) (hix : ix (ls o) u = some v) (ho' : o' = vset o u v') (hl : LR (rvC c o) off s s' (rvC c o')) (hn : s.length = n) (hx : ((updL tm fr).x x).cells = s') (hn' : s'.length = n) (h1 : s'.all AV.one = true)
    (hL : setL L j (rvA c id o') = some L') (hk : ∀ st, SH st L' → W X (.ops l :: k) (updL tm fr) st) : W X (.ops (⟨.none, .none, .plain (.store n a x)⟩ :: l) :: k) (updL tm fr) st := by
  obtain ⟨m, rfl⟩ := rv_some hix
  subst ho'
  exact W.o0 (e_store hp (hs.g j hj) hl hn hx hn' h1) (hk _ (setL_eq hL ▸ hs.set hj _))
end

/-! ### Rows of rows: the outer row's cells are the inner ones' headers -/
def rrC {α : Type} (es : Nat) : List Nat → List (Sl α) → List AV
  | i :: is, o :: l => rvV es o i :: rrC es is l
  | _, _ => []
def rrI {α : Type} (c : α → List AV) : List Nat → List (Sl α) → List Asn
  | i :: is, o :: l => rvA c i o :: rrI c is l
  | _, _ => []
/-- The inner rows. -/
def rrB {α : Type} (c : α → List AV) (ids : List Nat) (e : List (Sl α)) : Asn := fun h => ids.length = e.length ∧ starL (rrI c ids e) h
def rid (ids : List Nat) (n : Int) : Nat := ids.getD n.toNat 0

theorem rrC_get {α : Type} {es : Nat} : ∀ {ids : List Nat} {e : List (Sl α)} {n : Nat} {o : Sl α}, ids.length = e.length → e[n]? = some o → (rrC es ids e)[n]? = some (rvV es o (ids.getD n 0))
  | [], [], n, o, _, h => by simp at h
  | i :: is, o' :: l, 0, o, _, h => by simp at h; subst h; rfl
  | i :: is, o' :: l, n + 1, o, hl, h => by
    simp only [rrC, List.getElem?_cons_succ, List.getD_cons_succ] at h ⊢
    exact rrC_get (by simpa using hl) h
theorem rrI_get {α : Type} {c : α → List AV} : ∀ {ids : List Nat} {e : List (Sl α)} {n : Nat} {o : Sl α}, ids.length = e.length → e[n]? = some o → (rrI c ids e)[n]? = some (rvA c (ids.getD n 0) o)
  | [], [], n, o, _, h => by simp at h
  | i :: is, o' :: l, 0, o, _, h => by simp at h; subst h; rfl
  | i :: is, o' :: l, n + 1, o, hl, h => by
    simp only [rrI, List.getElem?_cons_succ, List.getD_cons_succ] at h ⊢
    exact rrI_get (by simpa using hl) h
theorem rrC_len {α : Type} {es : Nat} : ∀ {ids : List Nat} {e : List (Sl α)}, ids.length = e.length → (rrC es ids e).length = e.length
  | [], [], _ => rfl
  | i :: is, o :: l, h => by simp only [rrC, List.length_cons]; rw [rrC_len (by simpa using h)]
theorem rrI_set {α : Type} {c : α → List AV} : ∀ {ids : List Nat} {e : List (Sl α)} (n x : Nat) (o : Sl α), ids.length = e.length → (rrI c ids e).set n (rvA c x o) = rrI c (ids.set n x) (e.set n o)
  | [], [], n, x, o, _ => rfl
  | i :: is, o' :: l, 0, x, o, _ => rfl
  | i :: is, o' :: l, n + 1, x, o, h => by simp only [rrI, List.set_cons_succ]; rw [rrI_set n x o (by simpa using h)]
theorem rrC_set {α : Type} {es : Nat} : ∀ {ids : List Nat} {e : List (Sl α)} (n x : Nat) (o : Sl α), ids.length = e.length → (rrC es ids e).set n (rvV es o x) = rrC es (ids.set n x) (e.set n o)
  | [], [], n, x, o, _ => rfl
  | i :: is, o' :: l, 0, x, o, _ => rfl
  | i :: is, o' :: l, n + 1, x, o, h => by simp only [rrC, List.set_cons_succ]; rw [rrC_set n x o (by simpa using h)]
theorem set_getD : ∀ (ids : List Nat) (n : Nat), ids.set n (ids.getD n 0) = ids
  | [], n => by simp
  | i :: is, 0 => rfl
  | i :: is, n + 1 => by simp only [List.set_cons_succ, List.getD_cons_succ, set_getD is n]
theorem rrC_vset {α : Type} {es : Nat} {ids : List Nat} {e : List (Sl α)} {n : Nat} {o : Sl α} (hl : ids.length = e.length) (h : e[n]? = some o) (u : Int) (v : α) : rrC es ids (e.set n (vset o u v)) = rrC es ids e := by
  have h1 := rrC_set (es := es) n (ids.getD n 0) (vset o u v) hl
  rw [set_getD] at h1
  rw [← h1]
  have : rvV es (vset o u v) (ids.getD n 0) = rvV es o (ids.getD n 0) := by cases o <;> simp [rvV, vset]
  rw [this]
  exact set_get_self _ _ _ (rrC_get hl h)

section
variable {E : Glob} {tm : Fr} {st : Store} {x i : AX} {L : List Asn}
theorem SH.rrLen {α : Type} {c : α → List AV} {ids : List Nat} {e : List (Sl α)} (hs : SH st L) (j : Nat) (hj : L[j]? = some (rrB c ids e)) : ids.length = e.length := by
  obtain ⟨a, b, h1, _⟩ := starL_at hj hs
  exact h1.1
theorem SH.rrG {α : Type} {c : α → List AV} {ids : List Nat} {e : List (Sl α)} {n u : Int} {o : Sl α} {v : α} (hs : SH st L) (j : Nat) (hj : L[j]? = some (rrB c ids e)) (h : ix e n = some o) (hv : ix (ls o) u = some v) : st[rid ids n]? = some (.cells (rvC c o)) := by
  obtain ⟨l, rfl⟩ := rv_some hv
  obtain ⟨a, b, ⟨h1, h2⟩, _, _, h4⟩ := starL_at hj hs
  obtain ⟨p, q, k1, _, _, k4⟩ := starL_at (rrI_get (c := c) h1 (ix_some h).2.1) h2
  have k2 : p (rid ids n) = some (.cells (rvC c (some l))) := by rw [k1 (rid ids n)]; exact if_pos rfl
  rw [h4, PH.or_l (a := a) (x := .cells (rvC c (some l))) (by rw [k4, PH.or_l k2])]
/-- The outer row's cell, looked at. -/
theorem e_rr1 {α : Type} {es id : Nat} {c : α → List AV} {ids : List Nat} {e : List (Sl α)} {n : Int} {o : Sl α} (hp : tm.x x = .ptr id (n.toNat * 1)) (ho : st[id]? = some (.cells (rrC es ids e))) (hs : SH st L) (j : Nat) (hj : L[j]? = some (rrB c ids e)) (h : ix e n = some o) : evalAI E tm st (.load1 x) = some (rvV es o (rid ids n), st) :=
  l1 (off := n.toNat * 1) hp ho (by rw [Nat.mul_one]; exact rrC_get (hs.rrLen j hj) (ix_some h).2.1)
theorem e_iaddrO {α : Type} {id : Nat} {es : Nat} {ids : List Nat} {e : List (Sl α)} {k : IntKind} {n : Int} {o : Sl α} (hp : tm.x x = .row id 1 0 e.length) (ho : st[id]? = some (.cells (rrC es ids e))) (hi : tm.x i = .int k n) (h : ix e n = some o) : evalAI E tm st (.iaddrL 1 x i) = some (.ptr id (n.toNat * 1), st) :=
  e_iaddrR hp ho hi ⟨(ix_some h).1, (ix_some h).2.2⟩
/-- An inner row's element's place. -/
theorem e_iaddrI {α : Type} {es : Nat} {c : α → List AV} {ids : List Nat} {e : List (Sl α)} {k : IntKind} {n u : Int} {o : Sl α} {v : α} (hs : SH st L) (j : Nat) (hj : L[j]? = some (rrB c ids e)) (h : ix e n = some o) (hx : tm.x x = rvV es o (rid ids n)) (hi : tm.x i = .int k u) (hv : ix (ls o) u = some v) : evalAI E tm st (.iaddrL es x i) = some (.ptr (rid ids n) (u.toNat * es), st) := by
  have hg := hs.rrG j hj h hv
  obtain ⟨l, rfl⟩ := rv_some hv
  have h2 := ix_some hv
  exact e_iaddrR hx hg hi ⟨h2.1, by simpa [ls] using h2.2.2⟩
theorem e_lenI {α : Type} {es : Nat} {c : α → List AV} {ids : List Nat} {e : List (Sl α)} {n : Int} {o : Sl α} (hs : SH st L) (j : Nat) (hj : L[j]? = some (rrB c ids e)) (h : ix e n = some o) (hx : tm.x x = rvV es o (rid ids n)) : evalAI E tm st (.len x) = some (.int .i64 (ls o).length, st) := by
  cases o with
  | none => simp only [ev_len, hx, rvV]; rfl
  | some l =>
    obtain ⟨a, b, ⟨h1, h2⟩, _, _, h4⟩ := starL_at hj hs
    obtain ⟨p, q, k1, _, _, k4⟩ := starL_at (rrI_get (c := c) h1 (ix_some h).2.1) h2
    have k2 : p (rid ids n) = some (.cells (l.flatMap c)) := by rw [k1 (rid ids n)]; exact if_pos rfl
    exact e_lenR hx (by rw [h4, PH.or_l (a := a) (x := .cells (l.flatMap c)) (by rw [k4, PH.or_l k2])])
theorem SH.rrNew (hs : SH st L) {α : Type} (c : α → List AV) (n : Nat) : SH st (rrB c (List.replicate n 0) (List.replicate n (none : Sl α)) :: L) := by
  refine hs.empt ⟨by simp, ?_⟩
  induction n with
  | zero => trivial
  | succ n ih =>
    simp only [List.replicate_succ, rrI]
    exact ⟨fun _ => none, fun _ => none, fun _ => rfl, ih, fun _ => .inl rfl, fun _ => rfl⟩
theorem rrC_new {α : Type} (es : Nat) : ∀ n, rrC es (List.replicate n 0) (List.replicate n (none : Sl α)) = rep0 [.nils] n
  | 0 => rfl
  | n + 1 => by simp only [List.replicate_succ, rrC, rep0, rrC_new es n]; rfl
end
section
variable {X : Cx} {k : List KJ} {tm : Fr} {fr : List (Nat × AV)} {st : Store} {l : List AOp} {d : Nat} {L L' L1 : List Asn} {x y a : AX}
/-- Rows of rows are made, with none in them. -/
theorem mkRR {α : Type} (c : α → List AV) (es : Nat) {bytes : Nat} {z0 : List AV} {xl xc : AX} {kd kd' : IntKind} {n m : Int} (hs : SH st L) (hz : z0 = [.nils]) (hl : (updL tm fr).x xl = .int kd n) (hc : (updL tm fr).x xc = .int kd' m) (hb : 0 ≤ n ∧ m = n ∧ (bytes : Int) * n ≤ 281474976710656)
    (hk : ∀ st id ids, SH st (pt id (.cells (rrC es ids (List.replicate n.toNat (none : Sl α)))) :: rrB c ids (List.replicate n.toNat (none : Sl α)) :: L) → W X (.ops l :: k) (updL tm ((d, (.row id 1 0 (List.replicate n.toNat (none : Sl α)).length)) :: fr)) st) : W X (.ops (⟨.some d, .none, .plain (.mkslice 1 bytes z0 xl xc true)⟩ :: l) :: k) (updL tm fr) st := by
  subst hz
  have h3 := (hs.rrNew c n.toNat).push (.cells (rrC es (List.replicate n.toNat 0) (List.replicate n.toNat (none : Sl α))))
  refine W.po (v := .row st.length 1 0 (List.replicate n.toNat (none : Sl α)).length) (st' := st ++ [.cells (rrC es (List.replicate n.toNat 0) (List.replicate n.toNat (none : Sl α)))]) ?_ (hk _ _ _ h3)
  simp only [evalAI, hl, hc, if_true]
  rw [if_pos hb, rrC_new]
  simp
theorem SH.rrPut {α : Type} {c : α → List AV} {ids : List Nat} {e : List (Sl α)} {n : Nat} {o : Sl α} {q : Nat} {st : Store} {M : List Asn} (hs : SH st (rvA c q o :: M)) (j : Nat) (hj : M[j]? = some (rrB c ids e)) (hn : n < e.length) : SH st (M.set j (rrB c (ids.set n q) (e.set n o))) := by
  obtain ⟨a, b, h1, h2, h3, h4⟩ := hs
  obtain ⟨p, q', ⟨k1, k5⟩, k2, k3, k4⟩ := starL_at hj h2
  have hap : PH.dj a p ∧ PH.dj a q' := PH.dj_or.1 (fun i => by rw [← k4 i]; exact h3 i)
  obtain ⟨r, s, t1, t2, t3, t4⟩ := starL_at (rrI_get (c := c) k1 (List.getElem?_eq_getElem hn)) k5
  have har : PH.dj a r ∧ PH.dj a s := PH.dj_or.1 (fun i => by rw [← t4 i]; exact hap.1 i)
  have hrq : PH.dj r q' ∧ PH.dj s q' := by
    have h9 : PH.dj q' (PH.or r s) := fun i => by rw [← t4 i]; exact (k3 i).symm
    have := PH.dj_or.1 h9
    exact ⟨this.1.symm, this.2.symm⟩
  have hjl : n < (rrI c ids e).length := (List.getElem?_eq_some_iff.1 (rrI_get (c := c) k1 (List.getElem?_eq_getElem hn))).1
  have h5 := starL_put (P := rvA c q o) hjl h1 t2 har.2
  rw [rrI_set _ _ _ k1] at h5
  have hP : rrB c (ids.set n q) (e.set n o) (PH.or a s) := ⟨by rw [List.length_set, List.length_set]; exact k1, h5⟩
  have hjm : j < M.length := (List.getElem?_eq_some_iff.1 hj).1
  have hd6 : PH.dj (PH.or a s) q' := (PH.dj_or.2 ⟨hap.2.symm, hrq.2.symm⟩).symm
  have h6 := starL_put hjm hP k2 hd6
  have hd7 : PH.dj (PH.or (PH.or a s) q') r := (PH.dj_or.2 ⟨PH.dj_or.2 ⟨har.1.symm, t3⟩, hrq.1⟩).symm
  refine starL_congr (fun i => ?_) (starL_mono hd7 h6)
  have h7 : st[i]? = PH.or a b i := h4 i
  show _ = st[i]?
  rw [h7]
  have e1 := PH.or_comm t3 i
  have e2 := PH.or_comm hrq.1 i
  simp only [PH.or, k4 i, t4 i] at e1 e2 ⊢
  cases ha : a i <;> simp only [ha]
  cases hsi : s i <;> simp only [hsi] at e1 ⊢
  · cases hri : r i <;> simp only [hri] at e2 ⊢
    · cases hqi : q' i <;> simp only [hqi] at e2 ⊢
    · exact e2.symm
  · rcases t3 i with e | e
    · simp only [e]
    · rw [hsi] at e; cases e
theorem lr_one (cs : List AV) (n : Nat) (v : AV) (hn : n < cs.length) : LR cs (n * 1) [cs[n]] [v] (cs.set n v) :=
  ⟨cs.take n, cs.drop (n + 1), by simp, by rw [List.set_eq_take_append_cons_drop, if_pos hn]; simp, by simp; omega⟩
/-- A row is put into the outer one. -/
theorem stO {α : Type} {es : Nat} {c : α → List AV} {ids : List Nat} {e : List (Sl α)} {n : Int} {o o0 : Sl α} {id q : Nat} (hs : SH st L) (m : Nat) (hm : outL L m = some (rvA c q o, L1)) (j1 j2 : Nat) (hp : (updL tm fr).x a = .ptr id (n.toNat * 1)) (hx : (updL tm fr).x x = rvV es o q) (hj1 : L1[j1]? = some (pt id (.cells (rrC es ids e)))) (hj0 : L1[j2]? = some (rrB c ids e))
    (hj2 : (L1.set j1 (pt id (.cells (rrC es (ids.set n.toNat q) (e.set n.toNat o)))))[j2]? = some (rrB c ids e)) (h : ix e n = some o0)
    (hL : setL L1 j1 (pt id (.cells (rrC es (ids.set n.toNat q) (e.set n.toNat o)))) = some L') {L2 : List Asn} (hL2 : setL L' j2 (rrB c (ids.set n.toNat q) (e.set n.toNat o)) = some L2) (hk : ∀ st, SH st L2 → W X (.ops l :: k) (updL tm fr) st) : W X (.ops (⟨.none, .none, .plain (.store 1 a x)⟩ :: l) :: k) (updL tm fr) st := by
  have h0 : SH st (rvA c q o :: L1) := hs.perm' (outL_eq hm)
  have hlen := SH.rrLen (st := st) (starL_tail h0) j2 hj0
  have hn := ix_some h
  have hne : n.toNat < e.length := by omega
  have hcl : n.toNat < (rrC es ids e).length := by rw [rrC_len hlen]; exact hne
  have hg : st[id]? = some (.cells (rrC es ids e)) := h0.g (j1 + 1) hj1
  have hlr := lr_one (rrC es ids e) n.toNat (rvV es o q) hcl
  rw [rrC_set _ _ _ hlen] at hlr
  have hone : [rvV es o q].all AV.one = true := by cases o <;> rfl
  refine W.o0 (e_store (n := 1) hp hg hlr rfl (by rw [hx]; cases o <;> rfl) rfl hone) (hk _ ?_)
  have h2 : SH _ (rvA c q o :: L1.set j1 (pt id (.cells (rrC es (ids.set n.toNat q) (e.set n.toNat o))))) := SH.set (j := j1 + 1) (o' := .cells (rrC es (ids.set n.toNat q) (e.set n.toNat o))) h0 hj1
  have h3 := h2.rrPut (n := n.toNat) j2 hj2 hne
  rw [setL_eq hL2, setL_eq hL]
  exact h3
/-- An element of an inner row is written. -/
theorem stI {α : Type} {es : Nat} {c : α → List AV} {ids : List Nat} {e : List (Sl α)} {n u : Int} {o : Sl α} {v v' : α} {id : Nat} (hs : SH st L) (j1 j2 : Nat) (hp : (updL tm fr).x a = .ptr (rid ids n) (u.toNat * es)) (hx : ((updL tm fr).x x).cells = c v') (hj1 : L[j1]? = some (pt id (.cells (rrC es ids e)))) (hj2 : L[j2]? = some (rrB c ids e)) (h : ix e n = some o) (hv : ix (ls o) u = some v) (hc : ∀ x, (c x).length = es) (h1 : (c v').all AV.one = true)
    (hL : setL L j1 (pt id (.cells (rrC es ids (e.set n.toNat (vset o u v'))))) = some L1) (hL2 : setL L1 j2 (rrB c ids (e.set n.toNat (vset o u v'))) = some L') (hk : ∀ st, SH st L' → W X (.ops l :: k) (updL tm fr) st) : W X (.ops (⟨.none, .none, .plain (.store es a x)⟩ :: l) :: k) (updL tm fr) st := by
  have hlen := hs.rrLen j2 hj2
  have hg := hs.rrG j2 hj2 h hv
  have hL' := setL_eq hL
  have hL2' := setL_eq hL2
  refine W.o0 (e_store hp hg (lrV_set hc hv v') (hc v) hx (hc v') h1) (hk _ ?_)
  rw [rrC_vset hlen (ix_some h).2.1] at hL'
  rw [set_get_self _ _ _ hj1] at hL'
  subst hL'; subst hL2'
  obtain ⟨m, rfl⟩ := rv_some hv
  refine hs.upd hj2 fun p q hp hd he => ?_
  obtain ⟨q1, q2⟩ := hp
  obtain ⟨r, s, t1, t2, t3, t4⟩ := starL_at (rrI_get (c := c) q1 (ix_some h).2.1) q2
  have hr : ∀ i, r i = if i = rid ids n then some (.cells (m.flatMap c)) else none := t1
  have hpi : p (rid ids n) = some (.cells (m.flatMap c)) := by rw [t4, PH.or_l (a := r) (x := .cells (m.flatMap c)) (by rw [hr, if_pos rfl])]
  have hlt : rid ids n < st.length := (List.getElem?_eq_some_iff.1 hg).1
  have hqn : q (rid ids n) = none := by
    rcases hd (rid ids n) with e | e
    · rw [hpi] at e; cases e
    · exact e
  have hsn : s (rid ids n) = none := by
    rcases t3 (rid ids n) with e | e
    · rw [hr, if_pos rfl] at e; cases e
    · exact e
  refine ⟨fun i => if i = rid ids n then some (.cells (rvC c (vset (some m) u v'))) else p i, ⟨by rw [List.length_set]; exact q1, ?_⟩, fun i => ?_, fun i => ?_⟩
  · have hjl : n.toNat < (rrI c ids e).length := (List.getElem?_eq_some_iff.1 (rrI_get (c := c) q1 (ix_some h).2.1)).1
    have hd2 : PH.dj (fun i => if i = rid ids n then some (AObj.cells (rvC c (vset (some m) u v'))) else none) s := fun i => by
      by_cases e : i = rid ids n
      · subst e; exact .inr hsn
      · exact .inl (if_neg e)
    have h5 := starL_put (P := rvA c (ids.getD n.toNat 0) (vset (some m) u v')) (a := fun i => if i = rid ids n then some (AObj.cells (rvC c (vset (some m) u v'))) else none) hjl (fun i => rfl) t2 hd2
    rw [rrI_set _ _ _ q1, set_getD] at h5
    refine starL_congr (fun i => ?_) h5
    by_cases e : i = rid ids n
    · subst e; show _ = (if rid ids n = rid ids n then _ else _); rw [if_pos rfl]; exact PH.or_l (if_pos rfl)
    · show _ = (if i = rid ids n then _ else p i); rw [if_neg e, t4, PH.or_r (a := fun i => if i = rid ids n then some (AObj.cells (rvC c (vset (some m) u v'))) else none) (if_neg e), PH.or_r (by rw [hr, if_neg e])]
  · by_cases e : i = rid ids n
    · subst e; exact .inr hqn
    · rcases hd i with e' | e'
      · exact .inl (by show (if i = rid ids n then _ else p i) = none; rw [if_neg e]; exact e')
      · exact .inr e'
  · by_cases e : i = rid ids n
    · subst e
      rw [List.getElem?_set_self hlt, PH.or_l (a := fun i => if i = rid ids n then some (AObj.cells (rvC c (vset (some m) u v'))) else p i) (x := .cells (rvC c (vset (some m) u v'))) (if_pos rfl)]
    · rw [List.getElem?_set_ne (Ne.symm e), he i]
      simp only [PH.or, if_neg e]
end
/-- A row that a call hands back, taken as plain data. -/
theorem xcall_freeze {P : Program} {E : Glob} {f : FuncId} {ds : List AV} {st : Store} {α : Type} {es : Nat} {c : α → List AV} {g : α → AV} {o : Sl α} (hes : 0 < es) (hc : ∀ x, (c x).length = es) (h1 : ∀ x, (c x).all AV.one = true) (hf : ∀ x, ofCells (!(es == 1)) (c x) = g x) (hg : ∀ x, DS (g x) (g x))
    (h : XCall P E f ds st fun r st' => ∃ id, r = rvV es o id ∧ SH st' [rvA c id o]) : XCall P E f ds st fun r _ => r = slV es g o := by
  intro G w vs hr hs
  refine (h G w vs hr hs).mono fun e w' ⟨u, r, st', G', he, hr', hs', hext, id, hrr, hsh⟩ => ?_
  subst hrr
  cases o with
  | none => exact ⟨u, .nils, st', G', he, hr', hs', hext, rfl⟩
  | some l =>
    have hst : st'[id]? = some (.cells (l.flatMap c)) := hsh.g 0 rfl
    have hl : (l.flatMap c).length = l.length * es := flat_len hc l
    have ha : (l.flatMap c).all AV.one = true := by
      simp only [List.all_flatMap]; exact List.all_eq_true.2 fun z _ => h1 z
    obtain ⟨G2, s2, x2, r2⟩ := freeze_row hs' hr' hst hl hes ha
    have e2 : (chunks es l.length (l.flatMap c)).map (ofCells (!(es == 1))) = l.map g := chunks_flat hc hf l
    rw [e2] at r2
    have hd : DS (.sl es (l.map g) (some st'.length)) (slV es g (some l)) := ds_rd hg (.inr ⟨l, some st'.length, rfl, rfl⟩)
    have r3 := strip_rep (G := G2) (G' := G2) (fun _ _ _ h => h) hd.1 r2
    rw [hd.2] at r3
    exact ⟨u, _, _, G2, he, r3, s2, hext.trans x2, rfl⟩
theorem dfun_rv {P : Program} {E : Glob} {f : FuncId} {ds : List AV} {α : Type} {es : Nat} {c : α → List AV} {g : α → AV} [hg : DtF g] {o : Sl α} (hes : Nat.ble 1 es = true) (hc : ∀ x, (c x).length = es) (h1 : ∀ x, (c x).all AV.one = true) (hf : ∀ x, ofCells (!(es == 1)) (c x) = g x)
    (h : ∀ (st : Store) (L : List Asn) (K : AV → Store → Prop), SH st L → (∀ st id, SH st (rvA c id o :: L) → K (rvV es o id) st) → XCall P E f ds st K) : DFun P E f ds (slV es g o) := by
  have h2 := xcall_freeze (Nat.le_of_ble_eq_true hes) hc h1 hf hg.h (h [] [] (fun r st' => ∃ id, r = rvV es o id ∧ SH st' [rvA c id o]) SH.nil fun st id hs => ⟨id, rfl, hs⟩)
  have hds : DS (slV es g o) (slV es g o) := ds_sl hg.h
  exact h2.mono fun r st' hr => by subst hr; exact ⟨hds.1, hds.2⟩
end Go.Proofs.Ytjbafmnocopofaa.AW
