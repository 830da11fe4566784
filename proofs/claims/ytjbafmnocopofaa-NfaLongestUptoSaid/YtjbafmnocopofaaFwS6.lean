/-
  Rows that are written to: a call's own slice taken as one, its elements looked at and stored to, and appended to.
-/
import Derived.Test.YtjbafmnocopofaaFwS4
set_option linter.unusedVariables false
namespace Go.Proofs.Ytjbafmnocopofaa.AW
open Go

/-- A row: its elements, and how long it is. -/
structure Rw (α : Type) where
  l : List α
  n : Nat
def rwC {α : Type} (c : α → List AV) (a : Rw α) : List AV := a.l.flatMap c
def rset {α : Type} (a : Rw α) (i : Int) (x : α) : Rw α := ⟨a.l.set i.toNat x, a.n⟩
theorem lrR_get {α : Type} {c : α → List AV} {es : Nat} (hc : ∀ x, (c x).length = es) {a : Rw α} {i : Int} {x : α} (h : ix a.l i = some x) : LR (rwC c a) (i.toNat * es) (c x) (c x) (rwC c a) := by
  have := lr_list hc a.l i.toNat x x (ix_some h).2.1
  rw [set_get_self _ _ _ (ix_some h).2.1] at this
  exact this
theorem lrR_set {α : Type} {c : α → List AV} {es : Nat} (hc : ∀ x, (c x).length = es) {a : Rw α} {i : Int} {x : α} (h : ix a.l i = some x) (y : α) : LR (rwC c a) (i.toNat * es) (c x) (c y) (rwC c (rset a i y)) := lr_list hc a.l i.toNat x y (ix_some h).2.1
theorem chunks_flat {α : Type} {c : α → List AV} {f : α → AV} {es : Nat} {ag : Bool} (hc : ∀ x, (c x).length = es) (hf : ∀ x, ofCells ag (c x) = f x) : ∀ l : List α, (chunks es l.length (l.flatMap c)).map (ofCells ag) = l.map f
  | [] => rfl
  | x :: l => by
    simp only [List.length_cons, List.flatMap_cons, chunks, List.map_cons]
    rw [List.take_left' (hc x), List.drop_left' (hc x), hf, chunks_flat hc hf l]
section
variable {E : Glob} {tm : Fr} {st : Store} {x i : AX}
theorem e_iaddrR {id n es : Nat} {cs : List AV} {k : IntKind} {j : Int} (hp : tm.x x = .row id es 0 n) (ho : st[id]? = some (.cells cs)) (hi : tm.x i = .int k j) (h : 0 ≤ j ∧ j < (n : Int)) : evalAI E tm st (.iaddrL es x i) = some (.ptr id (j.toNat * es), st) := by
  simp only [ev_iaddrL, hi, asI_is, hp, elemP_row, alive_of ho]
  rw [if_pos ⟨trivial, trivial, h.1, h.2⟩, Nat.zero_add]
theorem e_lenR {id n es : Nat} {cs : List AV} (hp : tm.x x = .row id es 0 n) (ho : st[id]? = some (.cells cs)) : evalAI E tm st (.len x) = some (.int .i64 n, st) := by
  simp only [ev_len, hp, lenV_row, alive_of ho, if_true]
end
section
variable {X : Cx} {k : List KJ} {tm : Fr} {fr : List (Nat × AV)} {st : Store} {l : List AOp} {d : Nat} {L L1 : List Asn} {x y : AX}
theorem apR {α : Type} {es bytes : Nat} {f : α → AV} {c : α → List AV} {a : Rw α} {id : Nat} {ys : List α} (hs : SH st L) (j : Nat) (hL : outL L j = some (pt id (.cells (rwC c a)), L1)) (hx : (updL tm fr).x x = .row id es 0 a.n) (hy : appElems es st ((updL tm fr).x y) = some (ys.map f))
    (hb : (a.n + ys.length) * bytes ≤ 140737488355328) (hn : a.l.length = a.n) (hc : ∀ x, (c x).length = es) (h1 : ∀ x, (c x).all AV.one = true) (hf : ∀ x, ofCells (!(es == 1)) (c x) = f x)
    (hk : ∀ st id, SH st (ownA id (some (a.l ++ ys)) :: L1) → W X (.ops l :: k) (updL tm ((d, (ownV es f (some (a.l ++ ys)) id)) :: fr)) st) : W X (.ops (⟨.some d, .none, .plain (.app es bytes x y)⟩ :: l) :: k) (updL tm fr) st := by
  have h0 : SH st (pt id (.cells (rwC c a)) :: L1) := hs.perm' (outL_eq hL)
  have hg := h0.g 0 rfl
  have h2 : SH (st.set id .dead) L1 := starL_tail (P := pt id .dead) (h0.set (j := 0) rfl .dead)
  have h3 := h2.push (.tail (a.l ++ ys).length)
  rw [List.length_set] at h3
  refine W.po (v := ownV es f (some (a.l ++ ys)) st.length) (st' := st.set id .dead ++ [.tail (a.l ++ ys).length]) ?_ (hk _ _ h3)
  have hcl : (rwC c a).length = a.n * es := by
    rw [← hn]
    simp only [rwC]
    generalize a.l = m
    induction m with
    | nil => simp
    | cons z m ih => simp [hc, ih, Nat.add_mul, Nat.add_comm]
  have hca : (rwC c a).all AV.one = true := by
    simp only [rwC, List.all_flatMap]
    exact List.all_eq_true.2 fun z _ => h1 z
  simp only [ev_app, hy, obind_some, hx, appV, hg, List.length_map]
  rw [if_pos ⟨trivial, trivial, hcl, hca, hb⟩]
  have e : (chunks es a.n (rwC c a)).map (ofCells (!(es == 1))) = a.l.map f := by
    rw [← hn]; exact chunks_flat hc hf a.l
  rw [e]
  simp only [ownV, List.map_append, List.length_append, hn]
theorem clR {f : FuncId} {xs : List AX} {ds : List AV} {α : Type} {es : Nat} {g : α → AV} {c : α → List AV} {m : List α} (ha : ArgL ((xs.map (updL tm fr).x)) ds) (hd : DSL ds ds) (hgc : ∀ x, (g x).cells = c x) (hfl : ∀ x, (c x).all AV.flat = true)
    (h : ∀ (K : AV → Store → Prop) (Ls : List Asn) (st : Store), SH st Ls → (∀ st id, SH st (ownA id (some m) :: Ls) → K (ownV es g (some m) id) st) → XCall X.P X.E f ds st K) (hs : SH st L)
    (hk : ∀ st id, SH st (pt id (.cells (rwC c ⟨m, m.length⟩)) :: L) → W X (.ops l :: k) (updL tm ((d, .row id es 0 m.length) :: fr)) st) : W X (.ops (⟨.some d, .none, .call f xs⟩ :: l) :: k) (updL tm fr) st := by
  refine cl ha ?_
  have h0 : XCall X.P X.E f (AV.stripL ds) [] fun r st' => ∃ id, r = .sl es (m.map g) (some id) ∧ st'[id]? = some (.tail (m.map g).length) := by
    rw [hd.2]
    exact h _ [] [] SH.nil fun st id hs => ⟨id, rfl, by rw [List.length_map]; exact hs.g 0 rfl⟩
  have hcs : (m.map g).flatMap AV.cells = rwC c ⟨m, m.length⟩ := by
    simp only [rwC, List.flatMap_map]
    congr 1
    funext z
    exact hgc z
  have := xcall_row (st := st) h0 hd.1 (by
    rw [hcs]
    simp only [rwC, List.all_flatMap]
    exact List.all_eq_true.2 fun z _ => hfl z)
  refine this.mono fun r st' ⟨e1, e2⟩ => ?_
  subst e1; subst e2
  rw [hcs, List.length_map]
  exact hk _ _ (hs.push _)
end
/-! ### Literals of great elements -/
def plc (es : Nat) : Nat → List (List AV) → List (Nat × List AV)
  | _, [] => []
  | o, c :: l => (o, c) :: plc es (o + es) l
theorem fill_plc {es : Nat} {zero : List AV} (hz : zero.length = es) : ∀ (l : List (List AV)) (pre : List AV), (∀ c ∈ l, c.length = es) → fillA (pre ++ rep0 zero l.length) (plc es pre.length l) = pre ++ l.flatten
  | [], pre, _ => by simp [plc, fillA, rep0]
  | c :: l, pre, h => by
    have hc := h c (by simp)
    have ih := fill_plc hz l (pre ++ c) fun d hd => h d (by simp [hd])
    simp only [plc, fillA, List.length_cons, rep0]
    rw [List.take_left, hc]
    have e : (pre ++ (zero ++ rep0 zero l.length)).drop (pre.length + es) = rep0 zero l.length := by
      rw [← List.append_assoc]
      exact List.drop_left' (by simp [hz])
    rw [e]
    rw [List.length_append, hc] at ih
    rw [ih]
    simp
theorem bsG {X : Cx} {k : List KJ} {tm : Fr} {fr : List (Nat × AV)} {st : Store} {l : List AOp} {d : Nat} {L : List Asn} {α : Type} {f : α → AV} {c : α → List AV} {es len : Nat} {ag : Bool} {zero : List AV} {parts : List (Nat × Nat × AX)} {ps : List (Nat × List AV)} (m : List α) (hs : SH st L)
    (hp : partsOk (len * es) parts (updL tm fr) = some ps) (hps : ps = plc es 0 (m.map c)) (hz : zero.length = es) (hc : ∀ x, (c x).length = es) (h1 : ∀ x, (c x).all AV.one = true) (hf : ∀ x, ofCells ag (c x) = f x) (hl : m.length = len)
    (hk : ∀ st id, SH st (ownA id (some m) :: L) → W X (.ops l :: k) (updL tm ((d, (ownV es f (some m) id)) :: fr)) st) : W X (.ops (⟨.some d, .none, .plain (.bslice es len ag zero parts false)⟩ :: l) :: k) (updL tm fr) st := by
  subst hl
  have e1 : fillA (rep0 zero m.length) ps = m.flatMap c := by
    have := fill_plc hz (m.map c) [] (by intro y hy; obtain ⟨x, _, rfl⟩ := List.mem_map.1 hy; exact hc x)
    rw [List.length_map] at this
    rw [hps]
    simpa [List.flatMap_def] using this
  refine W.po (e_bslice (l := m) hp ?_ ?_ rfl) (hk _ _ (hs.push _))
  · rw [e1]; exact chunks_flat hc hf m
  · rw [e1]
    simp only [List.all_flatMap]
    exact List.all_eq_true.2 fun z _ => h1 z
end Go.Proofs.Ytjbafmnocopofaa.AW
