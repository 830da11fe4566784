/-
  The rules of a function's walk: what stays where objects are made and written.
-/
import Derived.Test.YtjbafmnocopofaaProg
import Derived.Test.YtjbafmnocopofaaFwT2
import Derived.KernelRfl
set_option linter.unusedSimpArgs false
set_option linter.unusedVariables false
namespace Go.Proofs.Ytjbafmnocopofaa.AW
open Go

/-- The program's own variables: none is looked at. -/
def noG : Glob := fun _ => none

theorem ne_new2 {st : Store} {j r : Nat} {o : AObj} (h : st[j]? = some o) : j ≠ st.length + r := by
  have := (List.getElem?_eq_some_iff.1 h).1
  omega
theorem own_ncc {α : Type} {es : Nat} {f : α → AV} {o : Sl α} {st : Store} {v : AV} {fp : Option Nat} {id : Nat} {cs : List AV} (hc : st[id]? = some (.cells cs)) (h : OwnV es f o st v fp) : ¬ fp = some id :=
  own_nec hc (fun _ => nofun) h
theorem own_keepc' {α : Type} {es : Nat} {f : α → AV} {o : Sl α} {st st' : Store} {v : AV} {fp : Option Nat} {id : Nat} {cs : List AV} (hk : Keep (fun j => j = id) st st') (hc : st[id]? = some (.cells cs)) (h : OwnV es f o st v fp) : OwnV es f o st' v fp :=
  own_keep hk h fun j hj e => own_ncc hc h (by rw [hj, e])
theorem own_keepb {α : Type} {es : Nat} {f : α → AV} {o : Sl α} {st st' s : Store} {v : AV} {fp : Option Nat} {r : Nat} (h0 : OwnV es f o s v fp) (h : OwnV es f o st v fp) (hk : Keep (fun j => j = s.length + r) st st') : OwnV es f o st' v fp :=
  own_keep hk h fun j hj e => by
    rcases h0 with ⟨_, _, h0⟩ | ⟨l, id, _, _, h3, h4⟩
    · rw [h0] at hj; cases hj
    · rw [h4] at hj
      cases hj
      exact ne_new2 h3 e

section
variable {tm : Fr}
theorem pk_nil {total : Nat} : partsOk total [] tm = some [] := rfl
theorem pk_cons {total off size : Nat} {x : AX} {v : AV} {cs : List AV} {rest : List (Nat × Nat × AX)} {l : List (Nat × List AV)} (hx : tm.x x = v) (hc : v.cells = cs) (hl : cs.length = size) (ho : off + size ≤ total) (h : partsOk total rest tm = some l) : partsOk total ((off, size, x) :: rest) tm = some ((off, cs) :: l) := by
  subst hx
  subst hc
  simp only [partsOk, h]
  rw [if_pos ⟨hl, ho⟩]
  rfl
theorem fl_nil (cs : List AV) : fillA cs [] = cs := rfl
theorem fl_cons {cs s s' cs' out : List AV} {off : Nat} {rest : List (Nat × List AV)} (hl : LR cs off s s' cs') (hn : s.length = s'.length) (h : fillA cs' rest = out) : fillA cs ((off, s') :: rest) = out := by
  simp only [fillA]
  rw [hl.put hn]
  exact h
end

/-! ### Functions that are handed an object -/

def isK (K : AV → Store → Prop) (v : AV) (st : Store) : Prop := v.data = true ∧ K v.strip st
theorem isk {K : AV → Store → Prop} {st : Store} {v v' : AV} (h : DS v v') (hk : K v' st) : v.data = true ∧ K v.strip st := ⟨h.1, by rw [h.2]; exact hk⟩
theorem xcallO_at {P : Program} {E : Glob} {mu : Nat → Bool} {f : FuncId} {fn : AFunc} {ds : List AV} {st : Store} {K : AV → Store → Prop} (hf : compF P mu f = some fn) (hl : ds.length ≤ fn.n)
    (h : At ⟨P, E, fn.n, mu, fn.res, isK K, endQ E fn.res (isK K)⟩ fn.body [] (frInit ds) st) : XCall P E f ds st K := xcall_strip (xcall_at hf hl h)

/-- What stands for the one stands for the other. -/
def ArgR (v v' : AV) : Prop := ∀ (G : Gh) (u : Value), Rep G v u → Rep G v' u
theorem ar_eq {v v' : AV} (h : v = v') : ArgR v v' := fun _ _ hr => h ▸ hr
theorem ar_ds {v v' : AV} (h : DS v v') : ArgR v v' := fun _ _ hr => h.2 ▸ strip_rep (fun _ _ _ h => h) h.1 hr
def ArgL (l l' : List AV) : Prop := ∀ (G : Gh) (us : List Value), RepL G l us → RepL G l' us
theorem al_nil : ArgL [] [] := fun _ _ h => h
theorem al_cons {v v' : AV} {l l' : List AV} (h : ArgR v v') (hl : ArgL l l') : ArgL (v :: l) (v' :: l') := fun G us hr => by
  simp only [RepL] at hr ⊢
  obtain ⟨u, us', e, h1, h2⟩ := hr
  exact ⟨u, us', e, h G u h1, hl G us' h2⟩
theorem xcall_arg {P : Program} {E : Glob} {f : FuncId} {ds ds' : List AV} {st : Store} {K : AV → Store → Prop} (ha : ArgL ds ds') (h : XCall P E f ds' st K) : XCall P E f ds st K := fun G w vs hr hs => h G w vs (ha G vs hr) hs

section
variable {X : Cx} {k : List KI} {tm : Fr} {st : Store} {l : List AOp} {d : Nat}
theorem xo_callO {f : FuncId} {xs : List AX} {ds' : List AV} (ha : ArgL (xs.map tm.x) ds') (h : XCall X.P X.E f ds' st fun v st' => AtO X l k (upd tm d v) st') : AtO X (⟨.some d, .none, .call f xs⟩ :: l) k tm st := xo_call (xcall_arg ha h)
theorem xo_callO0 {f : FuncId} {xs : List AX} {ds' : List AV} (ha : ArgL (xs.map tm.x) ds') (h : XCall X.P X.E f ds' st fun _ st' => AtO X l k tm st') : AtO X (⟨.none, .none, .call f xs⟩ :: l) k tm st := xo_call0 (xcall_arg ha h)
end

theorem keep_refl (bad : Nat → Prop) (st : Store) : Keep bad st st := fun _ _ h _ => h
theorem kp_t0 {bad : Nat → Prop} {st0 st st' : Store} (h : Keep bad st0 st) (k : Keep (fun _ => False) st st') : Keep bad st0 st' := fun j ob ho hb => keep0 k (h j ob ho hb)
theorem kp_tb {bad : Nat → Prop} {st0 st st' : Store} {id : Nat} (h : Keep bad st0 st) (k : Keep (fun j => j = id) st st') (hb : bad id) : Keep bad st0 st' := fun j ob ho hj => k j ob (h j ob ho hj) fun e => hj (e ▸ hb)
theorem kp_tl {bad : Nat → Prop} {st0 st st' : Store} {id : Nat} (h : Keep bad st0 st) (k : Keep (fun j => j = id) st st') (hf : ∀ j ob, st0[j]? = some ob → j ≠ id) : Keep bad st0 st' := fun j ob ho hj => k j ob (h j ob ho hj) (hf j ob ho)
theorem kp_fresh {i0 id : Nat} {st0 st : Store} {ob0 : AObj} (h : Keep (fun j => j = i0) st0 st) (h0 : st[i0]? = some ob0) (hid : id = st.length) : ∀ j ob, st0[j]? = some ob → j ≠ id := fun j ob ho e => by
  by_cases hb : j = i0
  · exact ne_new h0 (by omega)
  · exact ne_new (h j ob ho hb) (by omega)
theorem kp_fresh2 {i0 id r : Nat} {st0 st : Store} {ob0 : AObj} (h : Keep (fun j => j = i0) st0 st) (h0 : st[i0]? = some ob0) (hid : id = st.length + r) : ∀ j ob, st0[j]? = some ob → j ≠ id := fun j ob ho e => by
  by_cases hb : j = i0
  · exact ne_new2 (r := r) h0 (by omega)
  · exact ne_new2 (h j ob ho hb) (e.trans hid)

theorem kp_fresh0 {id : Nat} {st0 st : Store} (h : Keep (fun _ => False) st0 st) (hid : id = st.length) : ∀ j ob, st0[j]? = some ob → j ≠ id := fun j ob ho e => ne_new (keep0 h ho) (by omega)
theorem kp_fresh02 {id r : Nat} {st0 st : Store} (h : Keep (fun _ => False) st0 st) (hid : id = st.length + r) : ∀ j ob, st0[j]? = some ob → j ≠ id := fun j ob ho e => ne_new2 (keep0 h ho) (e.trans hid)
theorem kp_tn {bad : Nat → Prop} {st0 sD s s' : Store} {r : Nat} (h : Keep bad st0 s) (h0 : Keep bad st0 sD) (k : Keep (fun j => j = sD.length + r) s s') : Keep bad st0 s' := fun j ob ho hb => k j ob (h j ob ho hb) (ne_new2 (h0 j ob ho hb))

/-! ### Maps -/

/-- A map: what it has, and how many. -/
structure Mp (κ α : Type) where
  get : κ → Option α
  n : Nat
def Mp.empty {κ α : Type} : Mp κ α := ⟨fun _ => none, 0⟩
def Mp.put {κ α : Type} [DecidableEq κ] (m : Mp κ α) (k : κ) (v : α) : Mp κ α := ⟨fun x => if x = k then some v else m.get x, if (m.get k).isNone then m.n + 1 else m.n⟩
def mS {α : Type} (f : α → AV) (m : Mp Str α) : Key → Option AV
  | .s l => (m.get l).map f
  | .i _ => none
def mI {α : Type} (f : α → AV) (m : Mp Int α) : Key → Option AV
  | .s _ => none
  | .i n => (m.get n).map f
theorem mS_empty {α : Type} (f : α → AV) : mS f Mp.empty = fun _ => none := by funext c; cases c <;> rfl
theorem mI_empty {α : Type} (f : α → AV) : mI f Mp.empty = fun _ => none := by funext c; cases c <;> rfl
theorem mS_put {α : Type} (f : α → AV) (m : Mp Str α) (k : Str) (v : α) : updK (mS f m) (.s k) (f v) = mS f (m.put k v) := by
  funext c
  cases c with
  | s l =>
    by_cases h : l = k
    · subst h; simp [updK, mS, Mp.put]
    · simp [updK, mS, Mp.put, h]
  | i n => simp [updK, mS]
theorem mI_put {α : Type} (f : α → AV) (m : Mp Int α) (k : Int) (v : α) : updK (mI f m) (.i k) (f v) = mI f (m.put k v) := by
  funext c
  cases c with
  | i l =>
    by_cases h : l = k
    · subst h; simp [updK, mI, Mp.put]
    · simp [updK, mI, Mp.put, h]
  | s n => simp [updK, mI]

section
variable {X : Cx} {k : List KI} {tm : Fr} {st : Store} {l suf : List AOp} {d : Nat} {st0 : Store} {mr r : Nat} {m q x : AX} {α : Type} {f : α → AV} {id : Nat}

theorem xo_mkmapS (f : α → AV) (hk : ∀ st' id, st'[id]? = some (.map none (mS f Mp.empty) (Mp.empty : Mp Str α).n) → Keep (fun _ => False) st st' → id = st.length → AtO X l k (upd tm d (.mp id)) st') : AtO X (⟨.some d, .none, .plain (.mkmap none)⟩ :: l) k tm st :=
  xo (v := .mp st.length) (st' := st ++ [.map none (mS f Mp.empty) 0]) (by simp only [evalAI, mS_empty]) (hk _ _ (get_new _ _) (keep_app _ _) rfl)
theorem xd_mkmapS (f : α → AV) {s : Store} (hu : s[st0.length + r]? = some .unborn)
    (hk : ∀ s' id, id = st0.length + r → s'[id]? = some (.map none (mS f Mp.empty) (Mp.empty : Mp Str α).n) → Keep (fun j => j = st0.length + r) s s' → AtD X st0 mr l (r + 1) suf k (upd tm d (.mp id)) s') : AtD X st0 mr (⟨.some d, .none, .plain (.mkmap none)⟩ :: l) r suf k tm s := by
  simp only [AtD, lexQ_mkmap, Eff.app, Eff.id, hu, Eff.upd, Option.map_some, XDE_some, put_upd]
  have h := hk (s.set (st0.length + r) (.map none (mS f Mp.empty) 0)) _ rfl (get_set hu) (keep_set _ _ _)
  rw [mS_empty] at h
  exact h
theorem xd_mapsetS {s : Store} {key : Str} {v : α} {M : Mp Str α} (hm : tm.x m = .mp id) (hid : id = st0.length + mr) (hq : tm.x q = .str key) (hx : tm.x x = f v) (ho : s[id]? = some (.map none (mS f M) M.n)) (hn : (M.get key).isNone = true)
    (hk : ∀ s', s'[id]? = some (.map none (mS f (M.put key v)) (M.put key v).n) → Keep (fun j => j = id) s s' → AtD X st0 mr l r suf k tm s') : AtD X st0 mr (⟨.none, .none, .plain (.mapset none m q x)⟩ :: l) r suf k tm s := by
  have hn' : (mS f M (.s key)).isNone = true := by
    simp only [mS, Option.isNone_map]; exact hn
  have he : (Eff.ins id none (.s key) (f v)).app s = some (s.set id (.map none (mS f (M.put key v)) (M.put key v).n)) := by
    simp only [Eff.app, Eff.id, ho, Eff.upd, true_and, hn', if_true, Option.map_some, mS_put]
    simp only [Mp.put, hn, if_true]
  simp only [AtD, lexQ_mapset, hm, hq, hx, keyOf, XDM_mp, he, XDE_some, put_none]
  exact ⟨hid, hk _ (get_set ho) (keep_set _ _ _)⟩
theorem xo_mapsetS {key : Str} {v : α} {M : Mp Str α} (hm : tm.x m = .mp id) (hq : tm.x q = .str key) (hx : tm.x x = f v) (ho : st[id]? = some (.map none (mS f M) M.n))
    (hk : ∀ s', s'[id]? = some (.map none (mS f (M.put key v)) (M.put key v).n) → Keep (fun j => j = id) st s' → AtO X l k tm s') : AtO X (⟨.none, .none, .plain (.mapset none m q x)⟩ :: l) k tm st := by
  refine xo0 (st' := st.set id (.map none (mS f (M.put key v)) (M.put key v).n)) (v := .tup []) ?_ (hk _ (get_set ho) (keep_set _ _ _))
  simp only [evalAI, hm, hq, keyOf, ho, if_true, hx, mS_put]
  have : (mS f M (.s key)).isNone = (M.get key).isNone := by simp only [mS, Option.isNone_map]
  simp only [this, Mp.put]
theorem e_lookupS2 {E : Glob} {key : Str} {z : α} {zero : AV} {M : Mp Str α} {n : Nat} (hm : tm.x m = .mp id) (ho : st[id]? = some (.map none (mS f M) n)) (hq : tm.x q = .str key) (hz : zero = f z) :
    evalAI E tm st (.lookup none zero true m q) = some (.tup [f ((M.get key).getD z), .bool (M.get key).isSome], st) := by
  subst hz
  simp only [evalAI, hm, hq, keyOf, mapOf, ho, if_true, mS]
  cases M.get key <;> simp [lookA]
theorem e_lookupS1 {E : Glob} {key : Str} {z : α} {zero : AV} {M : Mp Str α} {n : Nat} (hm : tm.x m = .mp id) (ho : st[id]? = some (.map none (mS f M) n)) (hq : tm.x q = .str key) (hz : zero = f z) :
    evalAI E tm st (.lookup none zero false m q) = some (f ((M.get key).getD z), st) := by
  subst hz
  simp only [evalAI, hm, hq, keyOf, mapOf, ho, if_true, mS]
  cases M.get key <;> simp [lookA]
end
theorem own_T' {α : Type} {es : Nat} {f : α → AV} {l : List α} {id : Nat} {st : Store} (hs : st[id]? = some (.tail l.length)) : OwnV es f (some l) st (.sl es (l.map f) (some id)) (some id) := own_T rfl hs
end Go.Proofs.Ytjbafmnocopofaa.AW
