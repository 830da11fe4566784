/-
  Plain values of the program's types, what they stand for, and what the operations do to them.
-/
import Derived.Test.YtcidnoghoifmmaaDoorFwW
namespace Go.Proofs.YtcidnoghoifmmaaDoor.AW
open Go

abbrev Str := List UInt8
abbrev Sl (α : Type) := Option (List α)
def ls {α : Type} (o : Sl α) : List α := o.getD []
theorem ls_none {α : Type} : ls (none : Sl α) = [] := rfl
theorem ls_some {α : Type} (l : List α) : ls (some l) = l := rfl

structure Arr (n : Nat) (α : Type) where
  l : List α
  h : l.length = n
theorem Arr.ext {n : Nat} {α : Type} {a b : Arr n α} (h : a.l = b.l) : a = b := by
  obtain ⟨l, hl⟩ := a
  obtain ⟨m, hm⟩ := b
  cases h
  rfl
instance {n : Nat} {α : Type} [DecidableEq α] : DecidableEq (Arr n α) := fun a b =>
  if h : a.l = b.l then .isTrue (Arr.ext h) else .isFalse fun e => h (by rw [e])
def Arr.rep (n : Nat) {α : Type} (x : α) : Arr n α := ⟨List.replicate n x, by simp⟩
def aset {n : Nat} {α : Type} (a : Arr n α) (i : Int) (x : α) : Arr n α := ⟨a.l.set i.toNat x, by simp [a.h]⟩
def ix {α : Type} (l : List α) (n : Int) : Option α := if 0 ≤ n then l[n.toNat]? else none
theorem ix_some {α : Type} {l : List α} {n : Int} {x : α} (h : ix l n = some x) : 0 ≤ n ∧ l[n.toNat]? = some x ∧ n < l.length := by
  unfold ix at h
  split at h
  · rename_i h0
    refine ⟨h0, h, ?_⟩
    have := (List.getElem?_eq_some_iff.1 h).1
    omega
  · cases h
theorem ix_nat {α : Type} (l : List α) (n : Nat) : ix l (n : Int) = l[n]? := by simp [ix]

theorem bind_some {α β : Type} {x : Option α} {f : α → Option β} {r : β} (h : (x >>= f) = some r) : ∃ v, x = some v ∧ f v = some r := by
  cases x with
  | none => cases h
  | some v => exact ⟨v, rfl, h⟩
theorem grd_some {α : Type} {p : Prop} [Decidable p] {x : Option α} {r : α} (h : (if p then x else none) = some r) : p ∧ x = some r := by
  by_cases hp : p
  · rw [if_pos hp] at h; exact ⟨hp, h⟩
  · rw [if_neg hp] at h; cases h
theorem ite_t {α : Type} {c : Bool} {x y : Option α} {r : α} (hc : c = true) (h : (if c = true then x else y) = some r) : x = some r := by rw [if_pos hc] at h; exact h
theorem ite_f {α : Type} {c : Bool} {x y : Option α} {r : α} (hc : c = false) (h : (if c = true then x else y) = some r) : y = some r := by rw [if_neg (by rw [hc]; decide)] at h; exact h

def shlI (k : IntKind) (x y : Int) : Int := k.wrap (x * 2 ^ (Nat.min y.toNat k.bits))
def shrI (k : IntKind) (x y : Int) : Int := x.fdiv (2 ^ (Nat.min y.toNat k.bits))
def andI (k : IntKind) (x y : Int) : Int := k.wrap (BitVec.ofInt k.bits x &&& BitVec.ofInt k.bits y).toNat
def orI (k : IntKind) (x y : Int) : Int := k.wrap (BitVec.ofInt k.bits x ||| BitVec.ofInt k.bits y).toNat
def xorI (k : IntKind) (x y : Int) : Int := k.wrap (BitVec.ofInt k.bits x ^^^ BitVec.ofInt k.bits y).toNat
def andNotI (k : IntKind) (x y : Int) : Int := k.wrap (BitVec.ofInt k.bits x &&& ~~~(BitVec.ofInt k.bits y)).toNat
def notI (k : IntKind) (n : Int) : Int := k.wrap (BitVec.ofInt k.bits (if k.signed then -1 else k.max) ^^^ BitVec.ofInt k.bits n).toNat

theorem op_shl (k k' : IntKind) (x y : Int) (h : 0 ≤ y) : intOp .shl k x k' y = some (.int k (shlI k x y)) := by simp only [intOp, shlI]; rw [if_neg (by omega)]
theorem op_shr (k k' : IntKind) (x y : Int) (h : 0 ≤ y) : intOp .shr k x k' y = some (.int k (shrI k x y)) := by simp only [intOp, shrI]; rw [if_neg (by omega)]
theorem op_quo (k : IntKind) (x y : Int) (h : y ≠ 0) : intOp .quo k x k y = some (.int k (k.wrap (x.tdiv y))) := by simp only [intOp, if_true, if_neg h]
theorem op_rem (k : IntKind) (x y : Int) (h : y ≠ 0) : intOp .rem k x k y = some (.int k (x.tmod y)) := by simp only [intOp, if_true, if_neg h]


def LR (cs : List AV) (off : Nat) (s s' cs' : List AV) : Prop := ∃ p q, cs = p ++ s ++ q ∧ cs' = p ++ s' ++ q ∧ p.length = off

theorem LR.whole (cs cs' : List AV) : LR cs 0 cs cs' cs' := ⟨[], [], by simp, by simp, rfl⟩
theorem LR.comp {cs : List AV} {o o' : Nat} {s t cs' u v : List AV} (h : LR cs o s t cs') (h' : LR s o' u v t) : LR cs (o + o') u v cs' := by
  obtain ⟨p, q, rfl, rfl, rfl⟩ := h
  obtain ⟨p', q', rfl, rfl, rfl⟩ := h'
  exact ⟨p ++ p', q' ++ q, by simp, by simp, by simp⟩
theorem LR.cast {cs : List AV} {o o' : Nat} {s t cs' : List AV} (h : LR cs o s t cs') (e : o = o') : LR cs o' s t cs' := e ▸ h
theorem LR.get {cs : List AV} {o n : Nat} {s t cs' : List AV} (h : LR cs o s t cs') (hn : s.length = n) : o + n ≤ cs.length ∧ (cs.drop o).take n = s := by
  obtain ⟨p, q, rfl, rfl, rfl⟩ := h
  subst hn
  simp [List.append_assoc]
theorem LR.put {cs : List AV} {o n : Nat} {s t cs' : List AV} (h : LR cs o s t cs') (hn : s.length = n) : cs.take o ++ t ++ cs.drop (o + n) = cs' := by
  obtain ⟨p, q, rfl, rfl, rfl⟩ := h
  subst hn
  rw [List.append_assoc p s q, List.take_left, List.drop_append]
  simp
def DP (cs s : List AV) : Prop := ∃ q, cs = s ++ q
theorem DP.refl (cs : List AV) : DP cs cs := ⟨[], by simp⟩
theorem DP.fld {cs s u t v : List AV} {o : Nat} (h : DP cs s) (hl : LR s o u v t) : DP (cs.drop o) u := by
  obtain ⟨q, rfl⟩ := h
  obtain ⟨p, q', rfl, rfl, rfl⟩ := hl
  exact ⟨q' ++ q, by simp [List.append_assoc]⟩

def cA {n : Nat} {α : Type} (c : α → List AV) (a : Arr n α) : List AV := a.l.flatMap c

theorem flat_len {α : Type} {c : α → List AV} {es : Nat} (hc : ∀ x, (c x).length = es) : ∀ l : List α, (l.flatMap c).length = l.length * es
  | [] => by simp
  | x :: l => by rw [List.flatMap_cons, List.length_append, hc, flat_len hc l, List.length_cons, Nat.succ_mul, Nat.add_comm]
theorem lr_list {α : Type} {c : α → List AV} {es : Nat} (hc : ∀ x, (c x).length = es) : ∀ (l : List α) (i : Nat) (x y : α), l[i]? = some x → LR (l.flatMap c) (i * es) (c x) (c y) ((l.set i y).flatMap c)
  | [], i, x, y, h => by simp at h
  | z :: l, 0, x, y, h => by
    simp at h
    subst h
    exact ⟨[], l.flatMap c, by simp, by simp, by simp⟩
  | z :: l, i + 1, x, y, h => by
    obtain ⟨p, q, h1, h2, h3⟩ := lr_list hc l i x y (by simpa using h)
    refine ⟨c z ++ p, q, by simp [h1, List.append_assoc], by simp [h2, List.append_assoc], ?_⟩
    rw [List.length_append, hc, h3, Nat.succ_mul, Nat.add_comm]
theorem set_get_self {α : Type} : ∀ (l : List α) (i : Nat) (x : α), l[i]? = some x → l.set i x = l
  | [], i, x, h => by simp
  | z :: l, 0, x, h => by simp at h; simp [h]
  | z :: l, i + 1, x, h => by simp only [List.set_cons_succ]; rw [set_get_self l i x (by simpa using h)]
theorem lr_get {n : Nat} {α : Type} {c : α → List AV} {es : Nat} (hc : ∀ x, (c x).length = es) {a : Arr n α} {i : Int} {x : α} (h : ix a.l i = some x) : LR (cA c a) (i.toNat * es) (c x) (c x) (cA c a) := by
  have := lr_list hc a.l i.toNat x x (ix_some h).2.1
  rw [set_get_self _ _ _ (ix_some h).2.1] at this
  exact this
theorem lr_set {n : Nat} {α : Type} {c : α → List AV} {es : Nat} (hc : ∀ x, (c x).length = es) {a : Arr n α} {i : Int} {x : α} (h : ix a.l i = some x) (y : α) : LR (cA c a) (i.toNat * es) (c x) (c y) (cA c (aset a i y)) :=
  lr_list hc a.l i.toNat x y (ix_some h).2.1
theorem ix_in {n : Nat} {α : Type} (a : Arr n α) {i : Int} {m : Int} (h : 0 ≤ i ∧ i < m) (e : m = n) : ∃ x, ix a.l i = some x := by
  have : i.toNat < a.l.length := by rw [a.h]; omega
  exact ⟨a.l[i.toNat], by simp [ix, h.1, this]⟩
def slV {α : Type} (es : Nat) (f : α → AV) : Sl α → AV
  | none => .nils
  | some l => .sl es (l.map f) none
def RdV {α : Type} (es : Nat) (f : α → AV) (o : Sl α) (v : AV) : Prop := (o = none ∧ v = .nils) ∨ ∃ l tok, o = some l ∧ v = .sl es (l.map f) tok
theorem rd_V {α : Type} {es : Nat} {f : α → AV} {o : Sl α} {v : AV} (h : v = slV es f o) : RdV es f o v := by
  subst h
  cases o with
  | none => exact .inl ⟨rfl, rfl⟩
  | some l => exact .inr ⟨l, none, rfl, rfl⟩
theorem stripL_map {α : Type} {f : α → AV} (hf : ∀ x, (f x).strip = f x) : ∀ l : List α, AV.stripL (l.map f) = l.map f
  | [] => rfl
  | x :: l => by simp only [List.map_cons, AV.stripL, hf, stripL_map hf l]
theorem dataL_map {α : Type} {f : α → AV} (hf : ∀ x, (f x).data = true) : ∀ l : List α, AV.dataL (l.map f) = true
  | [] => rfl
  | x :: l => by simp only [List.map_cons, AV.dataL, hf, dataL_map hf l, Bool.and_self]
theorem rd_strip {α : Type} {es : Nat} {f : α → AV} (hf : ∀ x, (f x).strip = f x) {o : Sl α} {v : AV} (h : RdV es f o v) : v.strip = slV es f o := by
  rcases h with ⟨rfl, rfl⟩ | ⟨l, tok, rfl, rfl⟩
  · rfl
  · simp only [slV, AV.strip, stripL_map hf]
theorem rd_data {α : Type} {es : Nat} {f : α → AV} (hf : ∀ x, (f x).data = true) {o : Sl α} {v : AV} (h : RdV es f o v) : v.data = true := by
  rcases h with ⟨rfl, rfl⟩ | ⟨l, tok, rfl, rfl⟩
  · rfl
  · simp only [AV.data, dataL_map hf]
theorem stripL_app : ∀ a b : List AV, AV.stripL (a ++ b) = AV.stripL a ++ AV.stripL b
  | [], b => rfl
  | x :: a, b => by simp only [List.cons_append, AV.stripL, stripL_app a b]
theorem dataL_app : ∀ a b : List AV, AV.dataL (a ++ b) = (AV.dataL a && AV.dataL b)
  | [], b => rfl
  | x :: a, b => by simp only [List.cons_append, AV.dataL, dataL_app a b, Bool.and_assoc]
theorem stripL_flat {α : Type} {c : α → List AV} (hc : ∀ x, AV.stripL (c x) = c x) : ∀ l : List α, AV.stripL (l.flatMap c) = l.flatMap c
  | [] => rfl
  | x :: l => by simp only [List.flatMap_cons, stripL_app, hc, stripL_flat hc l]
theorem dataL_flat {α : Type} {c : α → List AV} (hc : ∀ x, AV.dataL (c x) = true) : ∀ l : List α, AV.dataL (l.flatMap c) = true
  | [] => rfl
  | x :: l => by simp only [List.flatMap_cons, dataL_app, hc, dataL_flat hc l, Bool.and_self]
def sapp {α : Type} : Sl α → List α → Sl α
  | none, [] => none
  | o, ys => some (ls o ++ ys)
theorem ls_sapp {α : Type} (o : Sl α) (ys : List α) : ls (sapp o ys) = ls o ++ ys := by
  cases o with
  | none => cases ys <;> rfl
  | some l => rfl
def scut {α : Type} : Sl α → Int → Int → Option (Sl α)
  | none, lo, hi => if lo = 0 ∧ hi = 0 then some none else none
  | some l, lo, hi => if 0 ≤ lo ∧ lo ≤ hi ∧ hi ≤ l.length then some (some ((l.take hi.toNat).drop lo.toNat)) else none
def toBs (l : List Int) : Str := l.map fun n => UInt8.ofNat n.toNat
def ofBs (s : Str) : List Int := s.map fun b => (b.toNat : Int)

theorem bytesOf_map : ∀ l : List Int, bytesOf (l.map (AV.int .u8)) = some (toBs l)
  | [] => rfl
  | n :: l => by
    have := bytesOf_map l
    simp only [bytesOf, toBs, List.map_cons, List.mapM_cons, AV.toByte] at this ⊢
    rw [this]; rfl

section
variable {E : Glob} {tm : Fr} {st : Store} {x y i a : AX}

theorem e_mv' {v : AV} (h : tm.x x = v) : evalAI E tm st (.mv x) = some (v, st) := by rw [← h]; rfl
theorem e_pick_t {c : AX} {t : Bool} {v : AV} (h : tm.x c = .bool t) (ht : t = true) (hv : tm.x a = v) : evalAI E tm st (.pick c a y) = some (v, st) := by subst ht; subst hv; simp only [ev_pick, h, asB_is, if_true]
theorem e_pick_f {c : AX} {t : Bool} {v : AV} (h : tm.x c = .bool t) (ht : t = false) (hv : tm.x y = v) : evalAI E tm st (.pick c a y) = some (v, st) := by subst ht; subst hv; simp [ev_pick, h, asB_is]
theorem e_alloc (z cs : List AV) (h : z = cs) : evalAI E tm st (.alloc z) = some (.ptr st.length 0, st ++ [.cells cs]) := by subst h; rfl
theorem e_box {n : Nat} {cs : List AV} (h : (tm.x x).cells = cs) (hn : cs.length = n) : evalAI E tm st (.box n x) = some (.ptr st.length 0, st ++ [.cells cs]) := by
  subst h; simp only [ev_box]; rw [if_pos hn]
theorem e_build {z cs : List AV} {ps : List (Nat × Nat × AX)} {l : List (Nat × List AV)} (h : partsOk z.length ps tm = some l) (hf : fillA z l = cs) : evalAI E tm st (.build z ps) = some (.agg cs, st) := by
  subst hf; simp only [ev_build, h, obind_some]
theorem e_load1 {id off : Nat} {cs : List AV} {v : AV} (hp : tm.x a = .ptr id off) (ho : st[id]? = some (.cells cs)) (hl : LR cs off [v] [v] cs) : evalAI E tm st (.load1 a) = some (v, st) := by
  have h := hl.get (n := 1) rfl
  simp only [ev_load1, hp, cellsAt, ho]
  rw [if_pos h.1, h.2]; rfl
theorem e_loadN {id off n : Nat} {cs s : List AV} (hp : tm.x a = .ptr id off) (ho : st[id]? = some (.cells cs)) (hl : LR cs off s s cs) (hn : s.length = n) : evalAI E tm st (.loadN n a) = some (.agg s, st) := by
  have h := hl.get hn
  simp only [ev_loadN, hp, cellsAt, ho]
  rw [if_pos h.1, h.2]; rfl
theorem e_load1D {cs : List AV} {v : AV} (hp : tm.x a = .dptr cs) (hd : DP cs [v]) : evalAI E tm st (.load1 a) = some (v, st) := by
  obtain ⟨q, rfl⟩ := hd
  simp [ev_load1, hp, cellsAt, obind]
theorem e_loadND {n : Nat} {cs s : List AV} (hp : tm.x a = .dptr cs) (hd : DP cs s) (hn : s.length = n) : evalAI E tm st (.loadN n a) = some (.agg s, st) := by
  obtain ⟨q, rfl⟩ := hd
  subst hn
  simp [ev_loadN, hp, cellsAt, obind]
theorem e_store {id off n : Nat} {cs s s' cs' : List AV} (hp : tm.x a = .ptr id off) (ho : st[id]? = some (.cells cs)) (hl : LR cs off s s' cs') (hn : s.length = n) (hx : (tm.x x).cells = s') (hn' : s'.length = n) (h1 : s'.all AV.one = true) :
    evalAI E tm st (.store n a x) = some (.tup [], st.set id (.cells cs')) := by
  subst hx
  have h := hl.get hn
  have h2 := hl.put hn
  simp only [ev_store, hp, asPtr_is, ho, asC_is]
  rw [if_pos ⟨hn', h.1, h1⟩, h2]
theorem alive_of {id : Nat} {cs : List AV} (ho : st[id]? = some (.cells cs)) : alive st id = true := by simp only [alive, ho]
theorem e_nilck {id off : Nat} {cs : List AV} (hp : tm.x x = .ptr id off) (ho : st[id]? = some (.cells cs)) : evalAI E tm st (.nilck x) = some (.ptr id off, st) := by
  simp only [ev_nilck, hp, nilA_ptr, alive_of ho, if_true]
theorem e_nilckD {cs : List AV} (hp : tm.x x = .dptr cs) : evalAI E tm st (.nilck x) = some (.dptr cs, st) := by simp only [ev_nilck, hp, nilA_dptr]
theorem e_faddr {id o off : Nat} {cs : List AV} (hp : tm.x x = .ptr id o) (ho : st[id]? = some (.cells cs)) : evalAI E tm st (.faddr off x) = some (.ptr id (o + off), st) := by
  simp only [ev_faddr, hp, addrA_ptr, alive_of ho, if_true]
theorem e_faddrD {off : Nat} {cs : List AV} (hp : tm.x x = .dptr cs) : evalAI E tm st (.faddr off x) = some (.dptr (cs.drop off), st) := by simp only [ev_faddr, hp, addrA_dptr]
theorem e_iaddrA {id o len es : Nat} {k : IntKind} {n : Int} {cs : List AV} (hp : tm.x x = .ptr id o) (ho : st[id]? = some (.cells cs)) (hi : tm.x i = .int k n) (hr : 0 ≤ n ∧ n < (len : Int)) : evalAI E tm st (.iaddrA len es x i) = some (.ptr id (o + n.toNat * es), st) := by
  simp only [ev_iaddrA, hi, asI_is]
  rw [if_pos hr]
  simp only [hp, addrA_ptr, alive_of ho, if_true]
theorem e_iaddrAD {len es : Nat} {k : IntKind} {n : Int} {cs : List AV} (hp : tm.x x = .dptr cs) (hi : tm.x i = .int k n) (hr : 0 ≤ n ∧ n < (len : Int)) : evalAI E tm st (.iaddrA len es x i) = some (.dptr (cs.drop (n.toNat * es)), st) := by
  simp only [ev_iaddrA, hi, asI_is]
  rw [if_pos hr]
  simp only [hp, addrA_dptr]
theorem e_bin {op : BinOp} {k k' : IntKind} {m n : Int} {v : AV} (hx : tm.x x = .int k m) (hy : tm.x y = .int k' n) (h : intOp op k m k' n = some v) : evalAI E tm st (.binI op x y) = some (v, st) := by
  simp only [ev_binI, hx, hy, asI_is, h, Option.map_some]
theorem e_str {op : BinOp} {s t : Str} {v : AV} (hx : tm.x x = .str s) (hy : tm.x y = .str t) (h : strOp op s t = some v) : evalAI E tm st (.binS op x y) = some (v, st) := by
  simp only [ev_binS, hx, hy, asS_is, h, Option.map_some]
theorem op_cat (s t : Str) (h : s.length + t.length ≤ 9223372036854775807) : strOp .add s t = some (.str (s ++ t)) := by simp only [strOp]; rw [if_pos h]
theorem e_eqB {s t : Bool} (hx : tm.x x = .bool s) (hy : tm.x y = .bool t) : evalAI E tm st (.eqB false x y) = some (.bool (s == t), st) := by simp [ev_eqB, hx, hy, asB_is]
theorem e_neB {s t : Bool} (hx : tm.x x = .bool s) (hy : tm.x y = .bool t) : evalAI E tm st (.eqB true x y) = some (.bool (!(s == t)), st) := by simp [ev_eqB, hx, hy, asB_is]
theorem e_eqA {ks : List LK} {s t : List AV} {b : Bool} (hx : tm.x x = .agg s) (hy : tm.x y = .agg t) (h : AV.eqKs ks s t = some b) : evalAI E tm st (.eqA false ks x y) = some (.bool b, st) := by simp [ev_eqA, hx, hy, asG_is, h, obind_some]
theorem e_neA {ks : List LK} {s t : List AV} {b : Bool} (hx : tm.x x = .agg s) (hy : tm.x y = .agg t) (h : AV.eqKs ks s t = some b) : evalAI E tm st (.eqA true ks x y) = some (.bool (!b), st) := by simp [ev_eqA, hx, hy, asG_is, h, obind_some]
theorem e_not {t : Bool} (hx : tm.x x = .bool t) : evalAI E tm st (.un .not x) = some (.bool (!t), st) := by simp only [ev_not, hx, asB_is]
theorem e_neg {k : IntKind} {n : Int} (hx : tm.x x = .int k n) : evalAI E tm st (.un .neg x) = some (.int k (k.wrap (0 - n)), st) := by simp only [ev_neg, hx, asI_is]
theorem e_xorU {k : IntKind} {n : Int} (hx : tm.x x = .int k n) : evalAI E tm st (.un .xor x) = some (.int k (notI k n), st) := by simp only [ev_xor, hx, asI_is, notI]
theorem e_cvI {k k' : IntKind} {n : Int} (hx : tm.x x = .int k' n) : evalAI E tm st (.cvI k x) = some (.int k (k.wrap n), st) := by simp only [ev_cvI, hx, asI_is]
theorem e_cvS {s : Str} (hx : tm.x x = .str s) : evalAI E tm st (.cvS x) = some (.str s, st) := by simp only [ev_cvS, hx, asS_is]
theorem e_ixA1 {len es : Nat} {k : IntKind} {n : Int} {cs : List AV} {v : AV} (hx : tm.x x = .agg cs) (hi : tm.x i = .int k n) (hr : 0 ≤ n ∧ n < (len : Int)) (hl : LR cs (n.toNat * es) [v] [v] cs) : evalAI E tm st (.ixA1 len es x i) = some (v, st) := by
  obtain ⟨p, q, rfl, _, hp⟩ := hl
  simp only [evalAI, hx, hi]
  rw [if_pos hr, ← hp]
  simp
theorem e_ixS {k : IntKind} {n : Int} {s : Str} {b : UInt8} (hx : tm.x x = .str s) (hi : tm.x i = .int k n) (h : ix s n = some b) : evalAI E tm st (.ixS x i) = some (.int .u8 b.toNat, st) := by
  have h2 := ix_some h
  simp only [ev_ixS, hi, hx, asI_is, asS_is]
  rw [if_pos h2.1, h2.2.1]; rfl
theorem e_extract {n : Nat} {vs : List AV} {v : AV} (hx : tm.x x = .tup vs) (hv : vs[n]? = some v) : evalAI E tm st (.extract x n) = some (v, st) := by simp only [ev_extract, hx, asT_is, hv, obind_some]
theorem e_lenS {s : Str} (hx : tm.x x = .str s) : evalAI E tm st (.lenS x) = some (.int .i64 s.length, st) := by simp only [ev_lenS, hx, asS_is]
theorem e_len {α : Type} {es : Nat} {f : α → AV} {o : Sl α} (h : RdV es f o (tm.x x)) : evalAI E tm st (.len x) = some (.int .i64 (ls o).length, st) := by
  rcases h with ⟨rfl, h⟩ | ⟨l, tok, rfl, h⟩
  · simp only [ev_len, h, lenV_nils]; rfl
  · simp only [ev_len, h, lenV_sl, List.length_map]; rfl
theorem e_iaddrL {α : Type} {es : Nat} {f : α → AV} {o : Sl α} {k : IntKind} {n : Int} {v : α} (h : RdV es f o (tm.x x)) (hi : tm.x i = .int k n) (hv : ix (ls o) n = some v) : evalAI E tm st (.iaddrL es x i) = some (.dptr (f v).cells, st) := by
  have h2 := ix_some hv
  rcases h with ⟨rfl, h⟩ | ⟨l, tok, rfl, h⟩
  · simp [ls] at h2
  · simp only [ls_some] at h2
    simp only [ev_iaddrL, hi, asI_is, h, elemP_sl]
    rw [if_pos ⟨trivial, h2.1⟩, List.getElem?_map, h2.2.1]; rfl
theorem bd_some {z : AX} {k : IntKind} {m : Int} {d : Nat} (h : tm.x z = .int k m) (h0 : 0 ≤ m) : bound ((some z).map tm.x) d = some m.toNat := by
  simp only [Option.map_some, h, bound, if_pos h0]
theorem scut_lo {α : Type} {o : Sl α} {o' : Sl α} {m n : Int} (h : scut o m n = some o') : 0 ≤ m ∧ m ≤ n ∧ n ≤ (ls o).length := by
  cases o with
  | none =>
    simp only [scut] at h
    split at h
    · rename_i hc; simp [hc, ls]
    · cases h
  | some l =>
    simp only [scut] at h
    split at h
    · rename_i hc; exact hc
    · cases h
theorem e_slL {α : Type} {es : Nat} {f : α → AV} {o o' : Sl α} {lo hi : Option AX} {m n : Int} (hx : RdV es f o (tm.x x)) (h1 : bound (lo.map tm.x) 0 = some m.toNat) (h2 : bound (hi.map tm.x) (ls o).length = some n.toNat) (h : scut o m n = some o') : evalAI E tm st (.slL es x lo hi) = some (slV es f o', st) := by
  have hlo := scut_lo h
  rcases hx with ⟨rfl, hx⟩ | ⟨l, tok, rfl, hx⟩
  · simp only [ls] at hlo
    simp only [scut] at h
    split at h
    · rename_i hc
      obtain ⟨rfl, rfl⟩ := hc
      cases h
      simp only [evalAI, hx, h1]
      simp only [ls, Option.getD_none, List.length_nil] at h2
      simp only [h2]
      rfl
    · cases h
  · simp only [scut] at h
    split at h
    · rename_i hc
      cases h
      simp only [ls_some] at h2
      simp only [evalAI, hx, h1, List.length_map, h2]
      rw [if_pos ⟨trivial, by omega, by omega⟩]
      simp only [slV, List.map_drop, List.map_take]
    · cases h
theorem e_slLh {α : Type} {es : Nat} {f : α → AV} {o o' : Sl α} {w : AX} {k' : IntKind} {n : Int} (hx : RdV es f o (tm.x x)) (hw : tm.x w = .int k' n) (h : scut o 0 n = some o') : evalAI E tm st (.slL es x none (some w)) = some (slV es f o', st) :=
  have hh := scut_lo h
  e_slL hx (m := 0) (by simp [bound]) (bd_some hw (by omega)) h
theorem e_b2s {o : Sl Int} (h : RdV 1 (AV.int .u8) o (tm.x x)) : evalAI E tm st (.b2s x) = some (.str (toBs (ls o)), st) := by
  rcases h with ⟨rfl, h⟩ | ⟨l, tok, rfl, h⟩
  · simp only [evalAI, h, elemsOf]; rfl
  · simp only [evalAI, h, elemsOf, bytesOf_map]; rfl
theorem ofBs_map (s : Str) : s.map ofByte = (ofBs s).map (AV.int .u8) := by
  simp only [ofBs, List.map_map]
  rfl
theorem e_bslice {α : Type} {f : α → AV} {es len : Nat} {ag : Bool} {zero : List AV} {parts : List (Nat × Nat × AX)} {ps : List (Nat × List AV)} {l : List α} (hp : partsOk (len * es) parts tm = some ps) (hf : (chunks es len (fillA (rep0 zero len) ps)).map (ofCells ag) = l.map f)
    (h1 : (fillA (rep0 zero len) ps).all AV.one = true) (hl : l.length = len) : evalAI E tm st (.bslice es len ag zero parts false) = some (.sl es (l.map f) (some st.length), st ++ [.tail l.length]) := by
  subst hl
  simp only [ev_bslice, hp, obind_some]
  rw [if_pos h1, hf]
theorem ae_rd {α : Type} {es : Nat} {f : α → AV} {o : Sl α} {v : AV} (h : RdV es f o v) : appElems es st v = some ((ls o).map f) := by
  rcases h with ⟨rfl, rfl⟩ | ⟨l, tok, rfl, rfl⟩
  · rfl
  · simp only [appElems, if_true, ls_some]
theorem ae_str {s : Str} {v : AV} (h : v = .str s) : appElems 1 st v = some ((ofBs s).map (AV.int .u8)) := by
  subst h
  simp only [appElems, if_true, ofBs_map]
end
end Go.Proofs.YtcidnoghoifmmaaDoor.AW
