/-
  The rules of a function's walk, one for each kind of operation.
-/
import Derived.Test.YtjbafmnocopofaaFwT1
set_option linter.unusedSimpArgs false
set_option linter.unusedVariables false
namespace Go.Proofs.Ytjbafmnocopofaa.AW
open Go

/-- Plain data, and what it is handed on as. -/
def DS (v v' : AV) : Prop := v.data = true ∧ v.strip = v'
def DSL (v v' : List AV) : Prop := AV.dataL v = true ∧ AV.stripL v = v'
theorem ds_eq {v w w' : AV} (h : v = w) (hd : DS w w') : DS v w' := h ▸ hd
theorem ds_i {k : IntKind} {n : Int} : DS (.int k n) (.int k n) := ⟨rfl, rfl⟩
theorem ds_b {b : Bool} : DS (.bool b) (.bool b) := ⟨rfl, rfl⟩
theorem ds_s {b : Str} : DS (.str b) (.str b) := ⟨rfl, rfl⟩
theorem ds_agg {cs : List AV} (h : DSL cs cs) : DS (.agg cs) (.agg cs) := ⟨h.1, by simp only [AV.strip, h.2]⟩
theorem ds_tup {cs cs' : List AV} (h : DSL cs cs') : DS (.tup cs) (.tup cs') := ⟨h.1, by simp only [AV.strip, h.2]⟩
theorem dsl_nil : DSL [] [] := ⟨rfl, rfl⟩
theorem dsl_cons {v v' : AV} {l l' : List AV} (h : DS v v') (hl : DSL l l') : DSL (v :: l) (v' :: l') := ⟨by simp only [AV.dataL, h.1, hl.1, Bool.and_self], by simp only [AV.stripL, h.2, hl.2]⟩
theorem dsl_app {a b : List AV} (h : DSL a a) (hl : DSL b b) : DSL (a ++ b) (a ++ b) := ⟨by simp only [dataL_app, h.1, hl.1, Bool.and_self], by simp only [stripL_app, h.2, hl.2]⟩
theorem ds_rd {α : Type} {es : Nat} {f : α → AV} (hf : ∀ x, DS (f x) (f x)) {o : Sl α} {v : AV} (h : RdV es f o v) : DS v (slV es f o) := ⟨rd_data (fun x => (hf x).1) h, rd_strip (fun x => (hf x).2) h⟩
theorem ds_sl {α : Type} {es : Nat} {f : α → AV} (hf : ∀ x, DS (f x) (f x)) {o : Sl α} : DS (slV es f o) (slV es f o) := ds_rd hf (rd_V rfl)

def cI (k : IntKind) (x : Int) : List AV := [.int k x]
def cB (x : Bool) : List AV := [.bool x]
def cS (x : Str) : List AV := [.str x]
theorem cI_len (k : IntKind) (x : Int) : (cI k x).length = 1 := rfl
theorem cB_len (x : Bool) : (cB x).length = 1 := rfl
theorem cS_len (x : Str) : (cS x).length = 1 := rfl
theorem cI_ds (k : IntKind) (x : Int) : DSL (cI k x) (cI k x) := ⟨rfl, rfl⟩
theorem cB_ds (x : Bool) : DSL (cB x) (cB x) := ⟨rfl, rfl⟩
theorem cS_ds (x : Str) : DSL (cS x) (cS x) := ⟨rfl, rfl⟩
theorem cI_one (k : IntKind) (x : Int) : (cI k x).all AV.one = true := rfl
theorem cB_one (x : Bool) : (cB x).all AV.one = true := rfl
theorem cS_one (x : Str) : (cS x).all AV.one = true := rfl
theorem cA_ds {n : Nat} {α : Type} {c : α → List AV} (hc : ∀ x, DSL (c x) (c x)) (a : Arr n α) : DSL (cA c a) (cA c a) := ⟨dataL_flat (fun x => (hc x).1) _, stripL_flat (fun x => (hc x).2) _⟩
theorem cA_one {n : Nat} {α : Type} {c : α → List AV} (hc : ∀ x, (c x).all AV.one = true) (a : Arr n α) : (cA c a).all AV.one = true := one_flat hc _
theorem one_app {a b : List AV} (h : a.all AV.one = true) (h' : b.all AV.one = true) : (a ++ b).all AV.one = true := by rw [List.all_append, h, h']; rfl

/-! Cells that are compared. -/
def EqC {α : Type} [DecidableEq α] (ks : List LK) (c : α → List AV) : Prop := ∀ x y : α, AV.eqKs ks (c x) (c y) = some (decide (x = y))
theorem eqKs_app : ∀ (ks : List LK) (a b : List AV) (r : Bool), AV.eqKs ks a b = some r → ∀ (ks' : List LK) (a' b' : List AV) (r' : Bool), AV.eqKs ks' a' b' = some r' → AV.eqKs (ks ++ ks') (a ++ a') (b ++ b') = some (r && r')
  | [], [], [], r, h, ks', a', b', r', h' => by simp only [AV.eqKs, Option.some.injEq] at h; subst h; simpa using h'
  | k :: ks, x :: a, y :: b, r, h, ks', a', b', r', h' => by
    simp only [AV.eqKs] at h
    split at h
    · rename_i p q h1 h2
      cases h
      have := eqKs_app ks a b q h2 ks' a' b' r' h'
      simp only [List.cons_append, AV.eqKs, h1, this, Bool.and_assoc]
    · cases h
  | [], [], _ :: _, r, h, _, _, _, _, _ => by simp [AV.eqKs] at h
  | [], _ :: _, _, r, h, _, _, _, _, _ => by simp [AV.eqKs] at h
  | _ :: _, [], _, r, h, _, _, _, _, _ => by simp [AV.eqKs] at h
  | _ :: _, _ :: _, [], r, h, _, _, _, _, _ => by simp [AV.eqKs] at h
theorem eqC_I (k : IntKind) : EqC [.i] (cI k) := fun x y => by
  simp only [cI, AV.eqKs, AV.eqK, if_true, Bool.and_true]; rfl
theorem eqC_B : EqC [.b] cB := fun x y => by
  simp only [cB, AV.eqKs, AV.eqK, Bool.and_true]; cases x <;> cases y <;> rfl
theorem eqC_S : EqC [.s] cS := fun x y => by
  simp only [cS, AV.eqKs, AV.eqK, Bool.and_true]
  by_cases h : x = y <;> simp [h]
theorem eqC_flat {α : Type} [DecidableEq α] {ks : List LK} {c : α → List AV} (hc : EqC ks c) : ∀ (l m : List α), l.length = m.length → AV.eqKs (repK ks l.length) (l.flatMap c) (m.flatMap c) = some (decide (l = m))
  | [], [], _ => by simp [repK, AV.eqKs]
  | x :: l, y :: m, h => by
    have h' : l.length = m.length := by simpa using h
    rw [List.flatMap_cons, List.flatMap_cons, List.length_cons, repK, eqKs_app _ _ _ _ (hc x y) _ _ _ _ (eqC_flat hc l m h')]
    by_cases h1 : x = y <;> by_cases h2 : l = m <;> simp [h1, h2]
  | [], _ :: _, h => by simp at h
  | _ :: _, [], h => by simp at h
theorem eqC_A {n : Nat} {α : Type} [DecidableEq α] {ks ks' : List LK} {c : α → List AV} (hc : EqC ks c) (e : ks' = repK ks n) : EqC ks' (cA (n := n) c) := fun x y => by
  have h := eqC_flat hc x.l y.l (by rw [x.h, y.h])
  rw [x.h] at h
  rw [e, cA, cA, h]
  congr 1
  by_cases e : x = y
  · subst e; simp
  · have : ¬ x.l = y.l := fun e' => e (Arr.ext e')
    simp [e, this]

theorem bsplit {b : Bool} {p : Prop} (h1 : b = true → p) (h2 : b = false → p) : p := by cases b; exact h2 rfl; exact h1 rfl

section
variable {X : Cx} {k : List KI} {tm : Fr} {st : Store} {l suf : List AOp} {d : Nat} {st0 : Store} {mr r : Nat} {x y i a : AX}

theorem at_draw0 {mr : Nat} {q suf : List AOp} (h : AtD X st mr q 0 suf k tm st) : At X (.draw [] mr 0 q suf) k tm st := at_draw (by simpa [maskS] using h)
theorem at_drawn {mr nb : Nat} {q suf : List AOp} (h : ∀ s, Keep (fun _ => False) st s → (∀ j, j < nb → s[st.length + j]? = some .unborn) → AtD X st mr q 0 suf k tm s) : At X (.draw [] mr nb q suf) k tm st :=
  at_draw (h _ (keep_rep _ _ _) fun j hj => by rw [List.getElem?_append_right (by omega)]; simp [List.getElem?_replicate, hj])
theorem xo_dfun' {f : FuncId} {as : List AX} {ds' : List AV} {v : AV} (h : DFun X.P X.E f ds' v) (hd : DSL (as.map tm.x) ds') (hk : AtO X l k (upd tm d v) st) : AtO X (⟨.some d, .none, .call f as⟩ :: l) k tm st := xo_dfun h hd.1 hd.2 hk
theorem xd_dfun' {f : FuncId} {as : List AX} {ds' : List AV} {v : AV} (h : DFun X.P X.E f ds' v) (hd : DSL (as.map tm.x) ds') (hk : AtD X st0 mr l r suf k (upd tm d v) st) : AtD X st0 mr (⟨.some d, .none, .call f as⟩ :: l) r suf k tm st := xd_dfun h hd.1 hd.2 hk

theorem xo_alloc {z cs : List AV} (h : z = cs) (hk : ∀ st' id, st'[id]? = some (.cells cs) → Keep (fun _ => False) st st' → id = st.length → AtO X l k (upd tm d (.ptr id 0)) st') : AtO X (⟨.some d, .none, .plain (.alloc z)⟩ :: l) k tm st :=
  xo (e_alloc z cs h) (hk _ _ (get_new _ _) (keep_app _ _) rfl)
theorem xo_box {n : Nat} {v : AV} {cs : List AV} (hx : tm.x x = v) (hc : v.cells = cs) (hn : cs.length = n) (hk : ∀ st' id, st'[id]? = some (.cells cs) → Keep (fun _ => False) st st' → id = st.length → AtO X l k (upd tm d (.ptr id 0)) st') : AtO X (⟨.some d, .none, .plain (.box n x)⟩ :: l) k tm st :=
  xo (e_box (by rw [hx]; exact hc) hn) (hk _ _ (get_new _ _) (keep_app _ _) rfl)
theorem xo_store {id off n : Nat} {v : AV} {cs s s' cs' : List AV} (hp : tm.x a = .ptr id off) (ho : st[id]? = some (.cells cs)) (hl : LR cs off s s' cs') (hn : s.length = n) (hx : tm.x x = v) (hc : v.cells = s') (hn' : s'.length = n) (h1 : s'.all AV.one = true)
    (hk : ∀ st', st'[id]? = some (.cells cs') → Keep (fun j => j = id) st st' → AtO X l k tm st') : AtO X (⟨.none, .none, .plain (.store n a x)⟩ :: l) k tm st :=
  xo0 (e_store hp ho hl hn (by rw [hx]; exact hc) hn' h1) (hk _ (get_set ho) (keep_set _ _ _))
theorem xo_bslice {α : Type} {f : α → AV} {es len : Nat} {ag : Bool} {zero : List AV} {parts : List (Nat × Nat × AX)} {ps : List (Nat × List AV)} {m : List α} (hp : partsOk (len * es) parts tm = some ps) (hf : (chunks es len (fillA (rep0 zero len) ps)).map (ofCells ag) = m.map f)
    (h1 : (fillA (rep0 zero len) ps).all AV.one = true) (hl : m.length = len) (hk : ∀ st' id, st'[id]? = some (.tail m.length) → Keep (fun _ => False) st st' → id = st.length → AtO X l k (upd tm d (.sl es (m.map f) (.some id))) st') : AtO X (⟨.some d, .none, .plain (.bslice es len ag zero parts false)⟩ :: l) k tm st :=
  xo (e_bslice hp hf h1 hl) (hk _ _ (get_new _ _) (keep_app _ _) rfl)
theorem xo_s2b {s : Str} (hx : tm.x x = .str s) (hk : ∀ st' id, st'[id]? = some (.tail (ofBs s).length) → Keep (fun _ => False) st st' → id = st.length → AtO X l k (upd tm d (.sl 1 ((ofBs s).map (AV.int .u8)) (.some id))) st') : AtO X (⟨.some d, .none, .plain (.s2b false x)⟩ :: l) k tm st :=
  xo (e_s2b hx) (hk _ _ (get_new _ _) (keep_app _ _) rfl)
theorem xo_app {α : Type} {es bytes : Nat} {f : α → AV} {o : Sl α} {fp : Option Nat} {ys : List α} (hx : OwnV es f o st (tm.x x) fp) (hy : appElems es st (tm.x y) = some (ys.map f)) (hb : ((ls o).length + ys.length) * bytes ≤ 140737488355328)
    (hk : ∀ v st' fp', OwnV es f (sapp o ys) st' v fp' → Keep (fun j => fp = some j) st st' → (∀ (j : Nat) ob, st[j]? = some ob → fp ≠ some j → fp' ≠ some j) → AtO X l k (upd tm d v) st') : AtO X (⟨.some d, .none, .plain (.app es bytes x y)⟩ :: l) k tm st := by
  obtain ⟨v, st', fp', h1, h2, h3, h4⟩ := e_app (E := X.E) (bytes := bytes) hx hy hb
  exact xo h1 (hk v st' fp' h2 h3 h4)

theorem xd_alloc {z cs : List AV} (h : z = cs) {s : Store} (hu : s[st0.length + r]? = some .unborn)
    (hk : ∀ s' id, id = st0.length + r → s'[id]? = some (.cells cs) → Keep (fun j => j = st0.length + r) s s' → AtD X st0 mr l (r + 1) suf k (upd tm d (.ptr id 0)) s') : AtD X st0 mr (⟨.some d, .none, .plain (.alloc z)⟩ :: l) r suf k tm s := by
  subst h
  simp only [AtD, lexQ_alloc, Eff.app, Eff.id, hu, Eff.upd, Option.map_some, XDE_some, put_upd]
  exact hk _ _ rfl (get_set hu) (keep_set _ _ _)
theorem xd_bslice {α : Type} {f : α → AV} {es len : Nat} {ag : Bool} {zero : List AV} {parts : List (Nat × Nat × AX)} {ps : List (Nat × List AV)} {m : List α} (hp : partsOk (len * es) parts tm = some ps) (hf : (chunks es len (fillA (rep0 zero len) ps)).map (ofCells ag) = m.map f)
    (h1 : (fillA (rep0 zero len) ps).all AV.one = true) (hl : m.length = len) {s : Store} (hu : s[st0.length + r]? = some .unborn)
    (hk : ∀ s' id, id = st0.length + r → s'[id]? = some (.tail m.length) → Keep (fun j => j = st0.length + r) s s' → AtD X st0 mr l (r + 1) suf k (upd tm d (.sl es (m.map f) (.some id))) s') : AtD X st0 mr (⟨.some d, .none, .plain (.bslice es len ag zero parts false)⟩ :: l) r suf k tm s := by
  subst hl
  simp only [AtD, lexQ_bslice, hp, XDB_some, h1, true_and, Eff.app, Eff.id, hu, Eff.upd, Option.map_some, XDE_some, put_upd, hf]
  exact hk _ _ rfl (get_set hu) (keep_set _ _ _)
theorem xd_store {id off n : Nat} {v : AV} {cs s1 s2 cs' : List AV} {s : Store} (hp : tm.x a = .ptr id off) (h0 : st0[id]? = some .hid) (ho : s[id]? = some (.cells cs)) (hl : LR cs off s1 s2 cs') (hn : s1.length = n) (hx : tm.x x = v) (hc : v.cells = s2) (hn' : s2.length = n) (h1 : s2.all AV.one = true)
    (hk : ∀ s', s'[id]? = some (.cells cs') → Keep (fun j => j = id) s s' → AtD X st0 mr l r suf k tm s') : AtD X st0 mr (⟨.none, .none, .plain (.store n a x)⟩ :: l) r suf k tm s := by
  have hg := hl.get hn
  have hpt := hl.put hn
  simp only [AtD, lexQ_store, hp, XDS_ptr, h0, true_and, Eff.app, Eff.id, ho, Eff.upd, hx, hc]
  rw [if_pos ⟨hn', hg.1, h1⟩]
  simp only [Option.map_some, XDE_some, put_none, hpt]
  exact hk _ (get_set ho) (keep_set _ _ _)
theorem xd0 {i : AI} {v : AV} (hs : i.still = true) (h : evalAI X.E tm st0 i = some (v, st0)) (hk : AtD X st0 mr l r suf k tm st) : AtD X st0 mr (⟨.none, .none, .plain i⟩ :: l) r suf k tm st := by
  simp only [AtD, lexQ_still _ _ _ _ hs, h, XD_some, put_none]; exact hk

theorem xo_cvB {x : AX} {es id : Nat} {xs : List AV} (h : tm.x x = .sl es xs (.some id)) (hs : st[id]? = some (.tail xs.length)) (hk : AtO X l k (upd tm d (.sl es xs (.some id))) st) : AtO X (⟨.some d, .none, .plain (.cvB x)⟩ :: l) k tm st :=
  xo (by simp only [evalAI, h, hs, if_true]) hk
theorem xd_cvB {n : Nat} {es id : Nat} {xs : List AV} {s : Store} (h : tm n = .sl es xs (.some id)) (hs : s[id]? = some (.tail xs.length)) (hk : AtD X st0 mr l r suf k (upd tm d (.sl es xs (.some id))) s) : AtD X st0 mr (⟨.some d, .none, .plain (.cvB (.t n))⟩ :: l) r suf k tm s := by
  rw [← put_upd] at hk
  exact lexQ_cvB _ _ _ _ _ _ _ _ _ h hs hk

/-! ### The end -/
theorem atr {vs : List AV} (h : resL X.E tm st X.res = some vs) (hk : X.K (pack vs) st) : AtR X tm st := by
  simp only [AtR, endQ_ret, h, XR_some]; exact hk
theorem rl_nil {E : Glob} : resL E tm st [] = some [] := rfl
theorem rl_tmp {E : Glob} {t : Nat} {v : AV} {vs : List AV} {rs : List RA} (h : tm t = v) (hl : resL E tm st rs = some vs) : resL E tm st (.tmp t :: rs) = some (v :: vs) := by
  subst h; simp only [resL, resOne, hl]
theorem rl_cell1 {E : Glob} {t id off : Nat} {cs : List AV} {v : AV} {vs : List AV} {rs : List RA} (hp : tm t = .ptr id off) (ho : st[id]? = some (.cells cs)) (hr : LR cs off [v] [v] cs) (hl : resL E tm st rs = some vs) : resL E tm st (.cell1 t :: rs) = some (v :: vs) := by
  have h := hr.get (n := 1) rfl
  simp only [resL, resOne, hp, cellsAt, ho, if_pos h.1, h.2, hl]; rfl
theorem rl_cellN {E : Glob} {t id off n : Nat} {cs s : List AV} {vs : List AV} {rs : List RA} (hp : tm t = .ptr id off) (ho : st[id]? = some (.cells cs)) (hr : LR cs off s s cs) (hn : s.length = n) (hl : resL E tm st rs = some vs) : resL E tm st (.cellN t n :: rs) = some (.agg s :: vs) := by
  have h := hr.get hn
  simp only [resL, resOne, hp, cellsAt, ho, if_pos h.1, h.2, hl]
theorem isd {v v' : AV} (h : DS v v') : v.data = true ∧ v.strip = v' := h

/-! ### Another frame, its slices no longer to be appended to -/
def inS : List Nat → Nat → Bool
  | [], _ => false
  | n :: l, i => Nat.beq n i || inS l i
def strp (S : List Nat) (tm : Fr) : Fr := fun i => bif inS S i then (tm i).strip else tm i
def DataS (tm : Fr) : List Nat → Prop
  | [] => True
  | n :: S => (tm n).data = true ∧ DataS tm S
theorem inS_data {tm : Fr} : ∀ {S : List Nat} {i : Nat}, DataS tm S → inS S i = true → (tm i).data = true
  | [], _, _, h => by simp [inS] at h
  | n :: S, i, hd, h => by
    simp only [inS, Bool.or_eq_true] at h
    rcases h with h | h
    · rw [← Nat.eq_of_beq_eq_true h]; exact hd.1
    · exact inS_data hd.2 h
theorem weak_strp {S : List Nat} (h : DataS tm S) : Weak tm (strp S tm) := fun G a hf t => by
  unfold strp
  cases e : inS S t with
  | false => exact hf t
  | true => exact strip_rep (fun _ _ _ h => h) (inS_data h e) (hf t)
end
end Go.Proofs.Ytjbafmnocopofaa.AW
