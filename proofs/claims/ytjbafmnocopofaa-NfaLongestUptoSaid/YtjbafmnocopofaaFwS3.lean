/-
  A function's walk: one rule for each kind of operation, over what is known of the store part by part.
-/
import Derived.Test.YtjbafmnocopofaaFwS2
set_option linter.unusedVariables false
namespace Go.Proofs.Ytjbafmnocopofaa.AW
open Go

/-! ### Plain data, found by its shape -/
class DtV (v : AV) : Prop where h : DS v v
class DtL (cs : List AV) : Prop where h : DSL cs cs
class DtF {α : Type} (f : α → AV) : Prop where h : ∀ x, DS (f x) (f x)
instance (k : IntKind) (n : Int) : DtV (.int k n) := ⟨ds_i⟩
instance (b : Bool) : DtV (.bool b) := ⟨ds_b⟩
instance (s : Str) : DtV (.str s) := ⟨ds_s⟩
instance : DtV .nils := ⟨⟨rfl, rfl⟩⟩
instance : DtV .nilptr := ⟨⟨rfl, rfl⟩⟩
instance (cs : List AV) [h : DtL cs] : DtV (.agg cs) := ⟨ds_agg h.h⟩
instance (cs : List AV) [h : DtL cs] : DtV (.tup cs) := ⟨ds_tup h.h⟩
instance : DtL [] := ⟨dsl_nil⟩
instance (v : AV) (l : List AV) [h : DtV v] [hl : DtL l] : DtL (v :: l) := ⟨dsl_cons h.h hl.h⟩
instance (a b : List AV) [h : DtL a] [hl : DtL b] : DtL (a ++ b) := ⟨dsl_app h.h hl.h⟩
instance (k : IntKind) (n : Int) : DtL (cI k n) := ⟨cI_ds k n⟩
instance (b : Bool) : DtL (cB b) := ⟨cB_ds b⟩
instance (s : Str) : DtL (cS s) := ⟨cS_ds s⟩
instance (k : IntKind) : DtF (AV.int k) := ⟨fun _ => ds_i⟩
instance : DtF AV.bool := ⟨fun _ => ds_b⟩
instance : DtF AV.str := ⟨fun _ => ds_s⟩
instance {α : Type} (es : Nat) (f : α → AV) [h : DtF f] : DtF (slV es f) := ⟨fun o => ds_sl h.h⟩
instance {α : Type} (es : Nat) (f : α → AV) (o : Sl α) [h : DtF f] : DtV (slV es f o) := ⟨ds_sl h.h⟩
theorem dsw {α : Type} {es : Nat} {f : α → AV} {o : Sl α} {id : Nat} [h : DtF f] : DS (ownV es f o id) (slV es f o) := ds_own h.h
theorem dsr {α : Type} {es : Nat} {f : α → AV} {o : Sl α} {v : AV} [hf : DtF f] (h : RdV es f o v) : DS v (slV es f o) := ds_rd hf.h h
theorem dsv {v : AV} [h : DtV v] : DS v v := h.h

/-! ### Loads and stores by place, in cells that are spelled out -/
section
variable {E : Glob} {tm : Fr} {st : Store} {x y i a : AX}
theorem l1 {id off : Nat} {cs : List AV} {v : AV} (hp : tm.x a = .ptr id off) (ho : st[id]? = some (.cells cs)) (hc : cs[off]? = some v) : evalAI E tm st (.load1 a) = some (v, st) := by
  simp only [ev_load1, hp, cellsAt, ho]
  have := (List.getElem?_eq_some_iff.1 hc).1
  rw [if_pos (by omega)]
  simp only [obind_some]
  rw [List.headD_eq_head?_getD, List.head?_take, if_neg (by decide), List.head?_drop, hc]; rfl
theorem lN {id off n : Nat} {cs s : List AV} (hp : tm.x a = .ptr id off) (ho : st[id]? = some (.cells cs)) (hb : Nat.ble (off + n) cs.length = true) (hc : (cs.drop off).take n = s) : evalAI E tm st (.loadN n a) = some (.agg s, st) := by
  simp only [ev_loadN, hp, cellsAt, ho]
  rw [if_pos (Nat.le_of_ble_eq_true hb), hc]; rfl
theorem l1D {cs : List AV} {v : AV} (hp : tm.x a = .dptr cs) (hc : cs[0]? = some v) : evalAI E tm st (.load1 a) = some (v, st) := by
  cases cs with
  | nil => simp at hc
  | cons z q => simp at hc; subst hc; simp [ev_load1, hp, cellsAt, obind]
theorem lND {n : Nat} {cs s : List AV} (hp : tm.x a = .dptr cs) (hb : Nat.ble n cs.length = true) (hc : cs.take n = s) : evalAI E tm st (.loadN n a) = some (.agg s, st) := by
  simp only [ev_loadN, hp, cellsAt]
  rw [if_pos (Nat.le_of_ble_eq_true hb), hc]; rfl
theorem l1G {g off : Nat} {cs : List AV} {v : AV} (hp : tm.x a = .gptr g off) (hg : E g = some cs) (hc : cs[off]? = some v) : evalAI E tm st (.load1 a) = some (v, st) := by
  simp only [ev_load1, hp, cellsAt, hg]
  have := (List.getElem?_eq_some_iff.1 hc).1
  rw [if_pos (by omega)]
  simp only [obind_some]
  rw [List.headD_eq_head?_getD, List.head?_take, if_neg (by decide), List.head?_drop, hc]; rfl
def ixByte (s : Str) (n : Int) : Int := Lib.indexByte s n.toNat.toUInt8
theorem e_ixB {s : Str} {n : Int} (hx : tm.x x = .str s) (hc : tm.x y = .int .u8 n) : evalAI E tm st (.ixB x y) = some (.int .i64 (ixByte s n), st) := by simp only [evalAI, hx, hc]; rfl
theorem fN {off n : Nat} {cs s : List AV} (hx : tm.x x = .agg cs) (hb : Nat.ble (off + n) cs.length = true) (hc : (cs.drop off).take n = s) : evalAI E tm st (.fieldN off n x) = some (.agg s, st) := by
  simp only [ev_fieldN, hx, asG_is]
  rw [if_pos (Nat.le_of_ble_eq_true hb), hc]
theorem bd {z cs : List AV} {ps : List (Nat × Nat × AX)} {l : List (Nat × List AV)} (h : partsOk z.length ps tm = some l) (hf : fillA z l = cs) : evalAI E tm st (.build z ps) = some (.agg cs, st) := e_build h hf
theorem pk {total off size : Nat} {x : AX} {cs : List AV} {rest : List (Nat × Nat × AX)} {l : List (Nat × List AV)} (hc : (tm.x x).cells = cs) (hl : Nat.beq cs.length size = true) (ho : Nat.ble (off + size) total = true) (h : partsOk total rest tm = some l) : partsOk total ((off, size, x) :: rest) tm = some ((off, cs) :: l) :=
  pk_cons rfl hc (Nat.eq_of_beq_eq_true hl) (Nat.le_of_ble_eq_true ho) h
/-- The parts' values, in order. -/
def fitP (total : Nat) : List (Nat × Nat × AX) → Fr → Bool
  | [], _ => true
  | (off, size, x) :: rest, tm => Nat.beq (tm.x x).cells.length size && (Nat.ble (off + size) total && fitP total rest tm)
def valP : List (Nat × Nat × AX) → Fr → List (Nat × List AV)
  | [], _ => []
  | (off, _, x) :: rest, tm => (off, (tm.x x).cells) :: valP rest tm
theorem fitP_ok {total : Nat} : ∀ {ps : List (Nat × Nat × AX)}, fitP total ps tm = true → partsOk total ps tm = some (valP ps tm)
  | [], _ => rfl
  | (off, size, x) :: rest, h => by
    simp only [fitP, Bool.and_eq_true] at h
    simp only [partsOk, valP, fitP_ok h.2.2]
    rw [if_pos ⟨Nat.eq_of_beq_eq_true h.1, Nat.le_of_ble_eq_true h.2.1⟩]; rfl
theorem bR {z cs : List AV} {ps : List (Nat × Nat × AX)} (h : fitP z.length ps tm = true) (hf : fillA z (valP ps tm) = cs) : evalAI E tm st (.build z ps) = some (.agg cs, st) := e_build (fitP_ok h) hf
end

section
variable {X : Cx} {k : List KJ} {tm : Fr} {fr : List (Nat × AV)} {st : Store} {l suf : List AOp} {d : Nat} {st0 : Store} {mr r : Nat} {x y i a : AX} {L L0 L' L0' : List Asn}

theorem al {z cs : List AV} (hs : SH st L) (h : z = cs) (hk : ∀ st id, SH st (pt id (.cells cs) :: L) → W X (.ops l :: k) (updL tm ((d, (.ptr id 0)) :: fr)) st) : W X (.ops (⟨.some d, .none, .plain (.alloc z)⟩ :: l) :: k) (updL tm fr) st :=
  W.po (e_alloc z cs h) (hk _ _ (hs.push _))
theorem bx {n : Nat} {cs : List AV} (hs : SH st L) (hx : ((updL tm fr).x x).cells = cs) (hn : Nat.beq cs.length n = true) (hk : ∀ st id, SH st (pt id (.cells cs) :: L) → W X (.ops l :: k) (updL tm ((d, (.ptr id 0)) :: fr)) st) : W X (.ops (⟨.some d, .none, .plain (.box n x)⟩ :: l) :: k) (updL tm fr) st :=
  W.po (e_box hx (Nat.eq_of_beq_eq_true hn)) (hk _ _ (hs.push _))
/-- A store, in cells that are spelled out. -/
def stOk (cs : List AV) (off n : Nat) (v : AV) : Bool := Nat.beq v.cells.length n && (Nat.ble (off + n) cs.length && v.cells.all AV.one)
theorem sr {id off n : Nat} {cs cs' : List AV} (hs : SH st L) (j : Nat) (hp : (updL tm fr).x a = .ptr id off) (hj : L[j]? = some (pt id (.cells cs))) (hk1 : stOk cs off n ((updL tm fr).x x) = true) (hc : cs.take off ++ ((updL tm fr).x x).cells ++ cs.drop (off + n) = cs')
    (hL : setL L j (pt id (.cells cs')) = some L') (hk : ∀ st, SH st L' → W X (.ops l :: k) (updL tm fr) st) : W X (.ops (⟨.none, .none, .plain (.store n a x)⟩ :: l) :: k) (updL tm fr) st := by
  simp only [stOk, Bool.and_eq_true] at hk1
  subst hc
  refine W.o0 (v := .tup []) ?_ (hk _ (setL_eq hL ▸ hs.set hj _))
  have ho := hs.g j hj
  simp only [ev_store, hp, asPtr_is, ho, asC_is]
  rw [if_pos ⟨Nat.eq_of_beq_eq_true hk1.1, Nat.le_of_ble_eq_true hk1.2.1, hk1.2.2⟩]
/-- A store, by the part's place. -/
theorem sl {id off n : Nat} {cs s s' cs' : List AV} (hs : SH st L) (j : Nat) (hp : (updL tm fr).x a = .ptr id off) (hj : L[j]? = some (pt id (.cells cs))) (hl : LR cs off s s' cs') (hn : s.length = n) (hx : ((updL tm fr).x x).cells = s') (hn' : s'.length = n) (h1 : s'.all AV.one = true)
    (hL : setL L j (pt id (.cells cs')) = some L') (hk : ∀ st, SH st L' → W X (.ops l :: k) (updL tm fr) st) : W X (.ops (⟨.none, .none, .plain (.store n a x)⟩ :: l) :: k) (updL tm fr) st :=
  W.o0 (e_store hp (hs.g j hj) hl hn hx hn' h1) (hk _ (setL_eq hL ▸ hs.set hj _))
theorem ap {α : Type} {es bytes : Nat} {f : α → AV} {o : Sl α} {id : Nat} {ys : List α} (hs : SH st L) (j : Nat) (hj : L[j]? = some (ownA id o)) (hx : (updL tm fr).x x = ownV es f o id) (hy : appElems es st ((updL tm fr).x y) = some (ys.map f)) (hb : ((ls o).length + ys.length) * bytes ≤ 140737488355328)
    {L' : Nat → List Asn} (hL : ∀ id, setL L j (ownA id (sapp o ys)) = some (L' id)) (hk : ∀ st id, SH st (L' id) → W X (.ops l :: k) (updL tm ((d, (ownV es f (sapp o ys) id)) :: fr)) st) : W X (.ops (⟨.some d, .none, .plain (.app es bytes x y)⟩ :: l) :: k) (updL tm fr) st := by
  obtain ⟨id', st', h1, h2⟩ := hs.app (E := X.E) (bytes := bytes) hj hx hy hb
  exact W.po h1 (hk _ _ (setL_eq (hL id') ▸ h2))
theorem bs {α : Type} {f : α → AV} {es len : Nat} {ag : Bool} {zero : List AV} {parts : List (Nat × Nat × AX)} (m : List α) (hs : SH st L) (hp : fitP (len * es) parts (updL tm fr) = true) (hf : (chunks es len (fillA (rep0 zero len) (valP parts (updL tm fr)))).map (ofCells ag) = m.map f)
    (h1 : (fillA (rep0 zero len) (valP parts (updL tm fr))).all AV.one = true) (hl : Nat.beq m.length len = true) (hk : ∀ st id, SH st (ownA id (some m) :: L) → W X (.ops l :: k) (updL tm ((d, (ownV es f (some m) id)) :: fr)) st) : W X (.ops (⟨.some d, .none, .plain (.bslice es len ag zero parts false)⟩ :: l) :: k) (updL tm fr) st :=
  W.po (e_bslice (fitP_ok hp) hf h1 (Nat.eq_of_beq_eq_true hl)) (hk _ _ (hs.push _))
theorem sb {s : Str} (hs : SH st L) (hx : (updL tm fr).x x = .str s) (hk : ∀ st id, SH st (ownA id (some (ofBs s)) :: L) → W X (.ops l :: k) (updL tm ((d, (ownV 1 (AV.int .u8) (some (ofBs s)) id)) :: fr)) st) : W X (.ops (⟨.some d, .none, .plain (.s2b false x)⟩ :: l) :: k) (updL tm fr) st :=
  W.po (e_s2b hx) (hk _ _ (hs.push _))
theorem cb {α : Type} {es : Nat} {f : α → AV} {m : List α} {id : Nat} (hs : SH st L) (j : Nat) (hj : L[j]? = some (ownA id (some m))) (hx : (updL tm fr).x x = ownV es f (some m) id) (hk : W X (.ops l :: k) (updL tm ((d, (ownV es f (some m) id)) :: fr)) st) : W X (.ops (⟨.some d, .none, .plain (.cvB x)⟩ :: l) :: k) (updL tm fr) st :=
  W.po (by simp only [evalAI, hx, ownV, hs.g j hj, List.length_map, if_true]) hk

/-! Calls -/
theorem df {f : FuncId} {xs : List AX} {ds : List AV} {v : AV} (h : DFun X.P X.E f ds v) [hd : DtL ds] (ha : xs.map (updL tm fr).x = ds) (hk : W X (.ops l :: k) (updL tm ((d, v) :: fr)) st) : W X (.ops (⟨.some d, .none, .call f xs⟩ :: l) :: k) (updL tm fr) st := by
  rw [W.ops] at hk ⊢
  simp only [xOps_call]
  exact xc_fun h (by rw [ha]; exact hd.h.1) (by rw [ha]; exact hd.h.2) (by rw [put_upd]; exact hk)
theorem df' {f : FuncId} {xs : List AX} {ds : List AV} {v : AV} (h : DFun X.P X.E f ds v) (hd : DSL (xs.map (updL tm fr).x) ds) (hk : W X (.ops l :: k) (updL tm ((d, v) :: fr)) st) : W X (.ops (⟨.some d, .none, .call f xs⟩ :: l) :: k) (updL tm fr) st := by
  rw [W.ops] at hk ⊢
  simp only [xOps_call]
  exact xc_fun h hd.1 hd.2 (by rw [put_upd]; exact hk)
theorem ale {l l' : List AV} (h : l = l') : ArgL l l' := fun _ _ hr => h ▸ hr
theorem cl {f : FuncId} {xs : List AX} {ds : List AV} (ha : ArgL (xs.map (updL tm fr).x) ds) (h : XCall X.P X.E f ds st fun v st => W X (.ops l :: k) (updL tm ((d, v) :: fr)) st) : W X (.ops (⟨.some d, .none, .call f xs⟩ :: l) :: k) (updL tm fr) st := by
  rw [W.ops]
  simp only [xOps_call, XC, put_upd]
  exact xcall_arg ha (h.mono fun v st' hw => W.ops.1 hw)
theorem cl0 {f : FuncId} {xs : List AX} {ds : List AV} (ha : ArgL (xs.map (updL tm fr).x) ds) (h : XCall X.P X.E f ds st fun _ st => W X (.ops l :: k) (updL tm fr) st) : W X (.ops (⟨.none, .none, .call f xs⟩ :: l) :: k) (updL tm fr) st := by
  rw [W.ops]
  simp only [xOps_call, XC, put_none]
  exact xcall_arg ha (h.mono fun v st' hw => W.ops.1 hw)
theorem cv {f : AX} {g : FuncId} {caps : List AV} {xs : List AX} {ds : List AV} (hf : (updL tm fr).x f = .fn g caps) (hc : callable X.P g = true) (ha : ArgL (xs.map (updL tm fr).x ++ caps) ds) (h : XCall X.P X.E g ds st fun v st => W X (.ops l :: k) (updL tm ((d, v) :: fr)) st) : W X (.ops (⟨.some d, .none, .callv f xs⟩ :: l) :: k) (updL tm fr) st := by
  rw [W.ops, xOps_callv, hf]
  refine ⟨hc, xcall_arg ha (h.mono fun v st' hw => ?_)⟩
  rw [put_upd]; exact W.ops.1 hw
theorem cv0 {f : AX} {g : FuncId} {caps : List AV} {xs : List AX} {ds : List AV} (hf : (updL tm fr).x f = .fn g caps) (hc : callable X.P g = true) (ha : ArgL (xs.map (updL tm fr).x ++ caps) ds) (h : XCall X.P X.E g ds st fun _ st => W X (.ops l :: k) (updL tm fr) st) : W X (.ops (⟨.none, .none, .callv f xs⟩ :: l) :: k) (updL tm fr) st := by
  rw [W.ops, xOps_callv, hf]
  refine ⟨hc, xcall_arg ha (h.mono fun v st' hw => ?_)⟩
  rw [put_none]; exact W.ops.1 hw

/-! Maps -/
theorem mkS {α : Type} (f : α → AV) (hs : SH st L) (hk : ∀ st id, SH st (pt id (.map none (mS f Mp.empty) (Mp.empty : Mp Str α).n) :: L) → W X (.ops l :: k) (updL tm ((d, (.mp id)) :: fr)) st) : W X (.ops (⟨.some d, .none, .plain (.mkmap none)⟩ :: l) :: k) (updL tm fr) st :=
  W.po (v := .mp st.length) (st' := st ++ [.map none (mS f Mp.empty) 0]) (by simp only [evalAI, mS_empty]) (hk _ _ (hs.push _))
theorem mkI {α : Type} (kd : IntKind) (f : α → AV) (hs : SH st L) (hk : ∀ st id, SH st (pt id (.map (some kd) (mI f Mp.empty) (Mp.empty : Mp Int α).n) :: L) → W X (.ops l :: k) (updL tm ((d, (.mp id)) :: fr)) st) : W X (.ops (⟨.some d, .none, .plain (.mkmap (some kd))⟩ :: l) :: k) (updL tm fr) st :=
  W.po (v := .mp st.length) (st' := st ++ [.map (some kd) (mI f Mp.empty) 0]) (by simp only [evalAI, mI_empty]) (hk _ _ (hs.push _))
theorem msS {m q : AX} {α : Type} {f : α → AV} {id : Nat} {key : Str} (v : α) {M : Mp Str α} (hs : SH st L) (j : Nat) (hm : (updL tm fr).x m = .mp id) (hj : L[j]? = some (pt id (.map none (mS f M) M.n))) (hq : (updL tm fr).x q = .str key) (hx : (updL tm fr).x x = f v)
    (hL : setL L j (pt id (.map none (mS f (M.put key v)) (M.put key v).n)) = some L') (hk : ∀ st, SH st L' → W X (.ops l :: k) (updL tm fr) st) : W X (.ops (⟨.none, .none, .plain (.mapset none m q x)⟩ :: l) :: k) (updL tm fr) st := by
  have ho := hs.g j hj
  refine W.o0 (st' := st.set id (.map none (mS f (M.put key v)) (M.put key v).n)) (v := .tup []) ?_ (hk _ (setL_eq hL ▸ hs.set hj _))
  simp only [evalAI, hm, hq, keyOf, ho, if_true, hx, mS_put]
  have : (mS f M (.s key)).isNone = (M.get key).isNone := by simp only [mS, Option.isNone_map]
  simp only [this, Mp.put]
theorem msI {m q : AX} {kd : IntKind} {α : Type} {f : α → AV} {id : Nat} {key : Int} (v : α) {M : Mp Int α} (hs : SH st L) (j : Nat) (hm : (updL tm fr).x m = .mp id) (hj : L[j]? = some (pt id (.map (some kd) (mI f M) M.n))) (hq : (updL tm fr).x q = .int kd key) (hx : (updL tm fr).x x = f v)
    (hL : setL L j (pt id (.map (some kd) (mI f (M.put key v)) (M.put key v).n)) = some L') (hk : ∀ st, SH st L' → W X (.ops l :: k) (updL tm fr) st) : W X (.ops (⟨.none, .none, .plain (.mapset (some kd) m q x)⟩ :: l) :: k) (updL tm fr) st := by
  have ho := hs.g j hj
  refine W.o0 (st' := st.set id (.map (some kd) (mI f (M.put key v)) (M.put key v).n)) (v := .tup []) ?_ (hk _ (setL_eq hL ▸ hs.set hj _))
  simp only [evalAI, hm, hq, keyOf, ho, if_true, hx, mI_put]
  have : (mI f M (.i key)).isNone = (M.get key).isNone := by simp only [mI, Option.isNone_map]
  simp only [this, Mp.put]

/-! Statements that draw their order -/
theorem dr0 {mr : Nat} {q suf : List AOp} (h : WD X st mr q 0 suf k (updL tm fr) st) : W X (.code (.draw [] mr 0 q suf) :: k) (updL tm fr) st := by
  rw [W.code]
  exact XS.of (by rw [xCode_draw]; simpa [maskS, WD, sufK] using h)
theorem drn {mr nb : Nat} {q suf : List AOp} (hs : SH st L) (h : ∀ s0 st' : Store, SH s0 L → SH st' (ptU s0.length nb 0 ++ L) → WD X s0 mr q 0 suf k (updL tm fr) st') : W X (.code (.draw [] mr nb q suf) :: k) (updL tm fr) st := by
  rw [W.code]
  exact XS.of (by rw [xCode_draw]; simpa [maskS, WD, sufK] using h _ _ hs (hs.unborn nb))
theorem dr1 {mr nb : Nat} {q suf : List AOp} {id off : Nat} {o : List AV} (hs : SH st L) (j : Nat) (ha : (updL tm fr).x a = .ptr id off) (hj : L[j]? = some (pt id (.cells o))) (hL : setL L j (pt id .hid) = some L0')
    (h : ∀ s0 st' : Store, SH s0 L0' → SH st' (ptU s0.length nb 0 ++ L) → WD X s0 mr q 0 suf k (updL tm fr) st') : W X (.code (.draw [a] mr nb q suf) :: k) (updL tm fr) st := by
  rw [W.code]
  have := h (st.set id .hid) (st ++ List.replicate nb .unborn) (setL_eq hL ▸ hs.set hj _) (by rw [List.length_set]; exact hs.unborn nb)
  have hc : aliveC st id = true := by unfold aliveC; rw [hs.g j hj]
  exact XS.of (by rw [xCode_draw]; simpa [maskS, WD, sufK, ha, hc] using this)
theorem dr2 {mr nb : Nat} {q suf : List AOp} {a' : AX} {id off id' off' : Nat} {o o' : List AV} (hs : SH st L) (j j' : Nat) (ha : (updL tm fr).x a = .ptr id off) (hj : L[j]? = some (pt id (.cells o))) (ha' : (updL tm fr).x a' = .ptr id' off') (hj' : (L.set j (pt id .hid))[j']? = some (pt id' (.cells o')))
    (hL : setL (L.set j (pt id .hid)) j' (pt id' .hid) = some L0')
    (h : ∀ s0 st' : Store, SH s0 L0' → SH st' (ptU s0.length nb 0 ++ L) → WD X s0 mr q 0 suf k (updL tm fr) st') : W X (.code (.draw [a, a'] mr nb q suf) :: k) (updL tm fr) st := by
  rw [W.code]
  have := h ((st.set id .hid).set id' .hid) (st ++ List.replicate nb .unborn) (setL_eq hL ▸ (hs.set hj _).set hj' _) (by rw [List.length_set, List.length_set]; exact hs.unborn nb)
  have hc : aliveC st id = true := by unfold aliveC; rw [hs.g j hj]
  have hc' : aliveC (st.set id .hid) id' = true := by unfold aliveC; rw [(hs.set hj .hid).g j' hj']
  exact XS.of (by rw [xCode_draw]; simpa [maskS, WD, sufK, ha, ha', hc, hc'] using this)
theorem dz (h : W X (.ops suf :: k) (updL tm fr) st) : WD X st0 mr [] r suf k (updL tm fr) st := by
  rw [W.ops] at h
  simp only [WD, lexQ_nil, sufK_app]; exact h
theorem de {i : AI} {v : AV} (hs : i.still = true) (h : evalAI X.E (updL tm fr) st0 i = some (v, st0)) (hk : WD X st0 mr l r suf k (updL tm ((d, v) :: fr)) st) : WD X st0 mr (⟨.some d, .none, .plain i⟩ :: l) r suf k (updL tm fr) st := by
  simp only [WD, lexQ_still _ _ _ _ hs, h, XD_some, put_upd]; exact hk
theorem de0 {i : AI} {v : AV} (hs : i.still = true) (h : evalAI X.E (updL tm fr) st0 i = some (v, st0)) (hk : WD X st0 mr l r suf k (updL tm fr) st) : WD X st0 mr (⟨.none, .none, .plain i⟩ :: l) r suf k (updL tm fr) st := by
  simp only [WD, lexQ_still _ _ _ _ hs, h, XD_some, put_none]; exact hk
theorem don {d : Option Nat} {g : Nat} {b t : Bool} {i : AK} (hg : (updL tm fr) g = .bool t) (ht : t = b) (hk : WD X st0 mr (⟨d, .none, i⟩ :: l) r suf k (updL tm fr) st) : WD X st0 mr (⟨d, .some (g, b), i⟩ :: l) r suf k (updL tm fr) st := by
  subst ht
  simp only [WD, lexQ_guard, hg, XDG_run]; exact hk
theorem doff {g : Nat} {b t : Bool} {i : AK} (hg : (updL tm fr) g = .bool t) (ht : t = !b) (hb : bornN ⟨.some d, .none, i⟩ = 0) (hk : WD X st0 mr l r suf k (updL tm ((d, (.tup [])) :: fr)) st) : WD X st0 mr (⟨.some d, .some (g, b), i⟩ :: l) r suf k (updL tm fr) st := by
  subst ht
  cases b
  · simp only [WD, lexQ_guard, hg, Bool.not_false, XDG_tf, put_upd, hb, Nat.add_zero]; exact hk
  · simp only [WD, lexQ_guard, hg, Bool.not_true, XDG_ft, put_upd, hb, Nat.add_zero]; exact hk
theorem doffB {g : Nat} {b t : Bool} {i : AK} (hg : (updL tm fr) g = .bool t) (ht : t = !b) (hb : bornN ⟨.some d, .none, i⟩ = 1) (hk : WD X st0 mr l (r + 1) suf k (updL tm ((d, (.tup [])) :: fr)) st) : WD X st0 mr (⟨.some d, .some (g, b), i⟩ :: l) r suf k (updL tm fr) st := by
  subst ht
  cases b
  · simp only [WD, lexQ_guard, hg, Bool.not_false, XDG_tf, put_upd, hb]; exact hk
  · simp only [WD, lexQ_guard, hg, Bool.not_true, XDG_ft, put_upd, hb]; exact hk
theorem doffB' {g : Nat} {b : Bool} {i : AK} (hg : (updL tm fr) g = .tup []) (hb : bornN ⟨.some d, .none, i⟩ = 1) (hk : WD X st0 mr l (r + 1) suf k (updL tm ((d, (.tup [])) :: fr)) st) : WD X st0 mr (⟨.some d, .some (g, b), i⟩ :: l) r suf k (updL tm fr) st := by
  simp only [WD, lexQ_guard, hg, XDG_tup, put_upd, hb]; exact hk
theorem doff' {g : Nat} {b : Bool} {i : AK} (hg : (updL tm fr) g = .tup []) (hb : bornN ⟨.some d, .none, i⟩ = 0) (hk : WD X st0 mr l r suf k (updL tm ((d, (.tup [])) :: fr)) st) : WD X st0 mr (⟨.some d, .some (g, b), i⟩ :: l) r suf k (updL tm fr) st := by
  simp only [WD, lexQ_guard, hg, XDG_tup, put_upd, hb, Nat.add_zero]; exact hk
/-- Plain operations of a statement that draws. -/
def runD (tm : Fr) : Nat → List AOp → List (Nat × AV) → Option (List AOp × List (Nat × AV))
  | 0, l, fr => some (l, fr)
  | n + 1, l, fr => match l with
    | [] => none
    | o :: l => match stepF false tm o fr with
      | some fr' => runD tm n l fr'
      | none => none
theorem runD_sound : ∀ (n : Nat) (l : List AOp) (fr : List (Nat × AV)) (l' : List AOp) (fr' : List (Nat × AV)), runD tm n l fr = some (l', fr') → WD X st0 mr l' r suf k (updL tm fr') st → WD X st0 mr l r suf k (updL tm fr) st
  | 0, l, fr, l', fr', h, hk => by simp only [runD] at h; cases h; exact hk
  | n + 1, [], fr, l', fr', h, hk => by simp [runD] at h
  | n + 1, o :: l, fr, l', fr', h, hk => by
    simp only [runD] at h
    split at h
    · rename_i fr2 h2
      have hw := runD_sound n _ _ l' fr' h hk
      obtain ⟨d, v, rfl, hc⟩ := stepF_cases h2
      rcases hc with ⟨g, b, i, rfl, rfl, hg | hg, hb⟩ | ⟨g, b, i, rfl, hg, hv⟩ | ⟨i, rfl, hv⟩
      · exact doff' hg (by simpa using hb) hw
      · exact doff hg rfl (by simpa using hb) hw
      · exact don hg rfl (de (stepV_still hv) (stepV_eval hv) hw)
      · exact de (stepV_still hv) (stepV_eval hv) hw
    · cases h
theorem dn {l' : List AOp} {fr' : List (Nat × AV)} (n : Nat) (h : runD tm n l fr = some (l', fr')) (hk : WD X st0 mr l' r suf k (updL tm fr') st) : WD X st0 mr l r suf k (updL tm fr) st := runD_sound n l fr l' fr' h hk
theorem ddf {f : FuncId} {xs : List AX} {ds : List AV} {v : AV} (h : DFun X.P X.E f ds v) [hd : DtL ds] (ha : xs.map (updL tm fr).x = ds) (hk : WD X st0 mr l r suf k (updL tm ((d, v) :: fr)) st) : WD X st0 mr (⟨.some d, .none, .call f xs⟩ :: l) r suf k (updL tm fr) st := by
  simp only [WD, lexQ_call]
  exact xdc_fun h (by rw [ha]; exact hd.h.1) (by rw [ha]; exact hd.h.2) (by rw [put_upd]; exact hk)
theorem ddf' {f : FuncId} {xs : List AX} {ds : List AV} {v : AV} (h : DFun X.P X.E f ds v) (hd : DSL (xs.map (updL tm fr).x) ds) (hk : WD X st0 mr l r suf k (updL tm ((d, v) :: fr)) st) : WD X st0 mr (⟨.some d, .none, .call f xs⟩ :: l) r suf k (updL tm fr) st := by
  simp only [WD, lexQ_call]
  exact xdc_fun h hd.1 hd.2 (by rw [put_upd]; exact hk)
theorem dal {z cs : List AV} (hs : SH st L) (j : Nat) (h : z = cs) (hj : L[j]? = some (pt (st0.length + r) .unborn))
    (hL : setL L j (pt (st0.length + r) (.cells cs)) = some L') (hk : ∀ st, SH st L' → WD X st0 mr l (r + 1) suf k (updL tm ((d, (.ptr (st0.length + r) 0)) :: fr)) st) : WD X st0 mr (⟨.some d, .none, .plain (.alloc z)⟩ :: l) r suf k (updL tm fr) st := by
  subst h
  have hu := hs.g j hj
  simp only [WD, lexQ_alloc, Eff.app, Eff.id, hu, Eff.upd, Option.map_some, XDE_some, put_upd]
  exact hk _ (setL_eq hL ▸ hs.set hj _)
theorem dbs {α : Type} {f : α → AV} {es len : Nat} {ag : Bool} {zero : List AV} {parts : List (Nat × Nat × AX)} (m : List α) (hs : SH st L) (j : Nat) (hp : fitP (len * es) parts (updL tm fr) = true) (hf : (chunks es len (fillA (rep0 zero len) (valP parts (updL tm fr)))).map (ofCells ag) = m.map f)
    (h1 : (fillA (rep0 zero len) (valP parts (updL tm fr))).all AV.one = true) (hl : Nat.beq m.length len = true) (hj : L[j]? = some (pt (st0.length + r) .unborn))
    (hL : setL L j (ownA (st0.length + r) (some m)) = some L') (hk : ∀ st, SH st L' → WD X st0 mr l (r + 1) suf k (updL tm ((d, (ownV es f (some m) (st0.length + r))) :: fr)) st) : WD X st0 mr (⟨.some d, .none, .plain (.bslice es len ag zero parts false)⟩ :: l) r suf k (updL tm fr) st := by
  have hu := hs.g j hj
  have hl' := Nat.eq_of_beq_eq_true hl
  simp only [WD, lexQ_bslice, fitP_ok hp, XDB_some, h1, true_and, Eff.app, Eff.id, hu, Eff.upd, Option.map_some, XDE_some, put_upd, hf]
  have h2 : SH _ (L.set j (ownA (st0.length + r) (some m))) := hs.set hj (.tail m.length)
  have := hk _ (setL_eq hL ▸ h2)
  rw [hl'] at this
  exact this
theorem dst {id off n : Nat} {cs s1 s2 cs' : List AV} (h0 : SH st0 L0) (j0 : Nat) (hs : SH st L) (j : Nat) (hp : (updL tm fr).x a = .ptr id off) (hj0 : L0[j0]? = some (pt id .hid)) (hj : L[j]? = some (pt id (.cells cs))) (hl : LR cs off s1 s2 cs') (hn : s1.length = n) (hc : ((updL tm fr).x x).cells = s2) (hn' : s2.length = n) (h1 : s2.all AV.one = true)
    (hL : setL L j (pt id (.cells cs')) = some L') (hk : ∀ st, SH st L' → WD X st0 mr l r suf k (updL tm fr) st) : WD X st0 mr (⟨.none, .none, .plain (.store n a x)⟩ :: l) r suf k (updL tm fr) st := by
  have hg := hl.get hn
  have hpt := hl.put hn
  have hd := h0.g j0 hj0
  have ho := hs.g j hj
  simp only [WD, lexQ_store, hp, XDS_ptr, hd, true_and, Eff.app, Eff.id, ho, Eff.upd, hc]
  rw [if_pos ⟨hn', hg.1, h1⟩]
  simp only [Option.map_some, XDE_some, put_none, hpt]
  exact hk _ (setL_eq hL ▸ hs.set hj _)
/-- LR, for cells that are spelled out. -/
theorem lrx {cs s : List AV} (off n : Nat) (s' : List AV) (hb : Nat.ble (off + n) cs.length = true) (hc : (cs.drop off).take n = s) : LR cs off s s' (cs.take off ++ s' ++ cs.drop (off + n)) :=
  ⟨cs.take off, cs.drop (off + n), by
    subst hc
    rw [List.append_assoc, ← List.drop_drop, List.take_append_drop, List.take_append_drop], rfl, by
    have := Nat.le_of_ble_eq_true hb
    simp; omega⟩
theorem dsr' {id off n : Nat} {cs cs' : List AV} (h0 : SH st0 L0) (j0 : Nat) (hs : SH st L) (j : Nat) (hp : (updL tm fr).x a = .ptr id off) (hj0 : L0[j0]? = some (pt id .hid)) (hj : L[j]? = some (pt id (.cells cs))) (hk1 : stOk cs off n ((updL tm fr).x x) = true) (hc : cs.take off ++ ((updL tm fr).x x).cells ++ cs.drop (off + n) = cs')
    (hL : setL L j (pt id (.cells cs')) = some L') (hk : ∀ st, SH st L' → WD X st0 mr l r suf k (updL tm fr) st) : WD X st0 mr (⟨.none, .none, .plain (.store n a x)⟩ :: l) r suf k (updL tm fr) st := by
  simp only [stOk, Bool.and_eq_true] at hk1
  subst hc
  have hb := Nat.le_of_ble_eq_true hk1.2.1
  exact dst h0 j0 hs j hp hj0 hj (lrx off n _ hk1.2.1 rfl) (by simp; omega) rfl (Nat.eq_of_beq_eq_true hk1.1) hk1.2.2 hL hk
theorem dcb {n : Nat} {α : Type} {es : Nat} {f : α → AV} {m : List α} {id : Nat} (hs : SH st L) (j : Nat) (hj : L[j]? = some (ownA id (some m))) (hx : (updL tm fr) n = ownV es f (some m) id) (hk : WD X st0 mr l r suf k (updL tm ((d, (ownV es f (some m) id)) :: fr)) st) : WD X st0 mr (⟨.some d, .none, .plain (.cvB (.t n))⟩ :: l) r suf k (updL tm fr) st := by
  have hk : WD X st0 mr l r suf k (upd (updL tm fr) d (ownV es f (some m) id)) st := hk
  rw [← put_upd] at hk
  have hg : st[id]? = some (.tail m.length) := hs.g j hj
  exact lexQ_cvB _ _ _ _ _ _ _ _ _ hx (by rw [List.length_map]; exact hg) hk
theorem dmkS {α : Type} (f : α → AV) (hs : SH st L) (j : Nat) (hj : L[j]? = some (pt (st0.length + r) .unborn))
    (hL : setL L j (pt (st0.length + r) (.map none (mS f Mp.empty) (Mp.empty : Mp Str α).n)) = some L') (hk : ∀ st, SH st L' → WD X st0 mr l (r + 1) suf k (updL tm ((d, (.mp (st0.length + r))) :: fr)) st) : WD X st0 mr (⟨.some d, .none, .plain (.mkmap none)⟩ :: l) r suf k (updL tm fr) st := by
  have hu := hs.g j hj
  simp only [WD, lexQ_mkmap, Eff.app, Eff.id, hu, Eff.upd, Option.map_some, XDE_some, put_upd]
  have h := hk _ (setL_eq hL ▸ hs.set hj _)
  rw [mS_empty] at h
  exact h
theorem dmsS {m q : AX} {α : Type} {f : α → AV} {key : Str} (v : α) {M : Mp Str α} (hs : SH st L) (j : Nat) (hm : (updL tm fr).x m = .mp (st0.length + mr)) (hj : L[j]? = some (pt (st0.length + mr) (.map none (mS f M) M.n))) (hq : (updL tm fr).x q = .str key) (hx : (updL tm fr).x x = f v) (hn : (M.get key).isNone = true)
    (hL : setL L j (pt (st0.length + mr) (.map none (mS f (M.put key v)) (M.put key v).n)) = some L') (hk : ∀ st, SH st L' → WD X st0 mr l r suf k (updL tm fr) st) : WD X st0 mr (⟨.none, .none, .plain (.mapset none m q x)⟩ :: l) r suf k (updL tm fr) st := by
  have ho := hs.g j hj
  have hn' : (mS f M (.s key)).isNone = true := by
    simp only [mS, Option.isNone_map]; exact hn
  have he : (Eff.ins (st0.length + mr) none (.s key) (f v)).app st = some (st.set (st0.length + mr) (.map none (mS f (M.put key v)) (M.put key v).n)) := by
    simp only [Eff.app, Eff.id, ho, Eff.upd, true_and, hn', if_true, Option.map_some, mS_put]
    simp only [Mp.put, hn, if_true]
  simp only [WD, lexQ_mapset, hm, hq, hx, keyOf, XDM_mp, he, XDE_some, put_none]
  exact ⟨trivial, hk _ (setL_eq hL ▸ hs.set hj _)⟩
end

/-! ### A function: its beginning and its end -/
/-- A function that is handed plain data, and hands back just this. -/
def cD (P : Program) (E : Glob) (N : Nat) (res : List RA) (r : AV) (mu : List Nat := []) : Cx := ⟨P, E, N, muL mu, res, isD (fun x => x = r), endQ E res (isD (fun x => x = r))⟩
def cK (P : Program) (E : Glob) (N : Nat) (res : List RA) (K : AV → Store → Prop) (mu : List Nat := []) : Cx := ⟨P, E, N, muL mu, res, K, endQ E res K⟩
theorem W.xs {P : Program} {E : Glob} {N : Nat} {mu : Nat → Bool} {res : List RA} {K : AV → Store → Prop} {c : ACode} {tm : Fr} {st : Store} (h : W ⟨P, E, N, mu, res, K, endQ E res K⟩ [.code c] tm st) : At ⟨P, E, N, mu, res, K, endQ E res K⟩ c [] tm st := W.code.1 h
theorem bD {mu : List Nat} {P : Program} {E : Glob} {f : FuncId} {n : Nat} {c : ACode} {res : List RA} {ds : List AV} {r : AV} (hf : compF P (muL mu) f = some ⟨n, c, res⟩) (hl : Nat.ble ds.length n = true) (h : W (cD P E n res r mu) [.code c] (updL (fun _ => .tup []) (fi ds 0)) []) : DFun P E f ds r :=
  dfun_at hf (Nat.le_of_ble_eq_true hl) (by rw [fi_init]; exact h.xs)
theorem bK {mu : List Nat} {P : Program} {E : Glob} {f : FuncId} {n : Nat} {c : ACode} {res : List RA} {ds : List AV} {st : Store} {K : AV → Store → Prop} (hf : compF P (muL mu) f = some ⟨n, c, res⟩) (hl : Nat.ble ds.length n = true) (h : W (cK P E n res K mu) [.code c] (updL (fun _ => .tup []) (fi ds 0)) st) : XCall P E f ds st K :=
  xcall_at hf (Nat.le_of_ble_eq_true hl) (by rw [fi_init]; exact h.xs)
theorem bS {mu : List Nat} {P : Program} {E : Glob} {f : FuncId} {n : Nat} {c : ACode} {res : List RA} {ds : List AV} {st : Store} {K : AV → Store → Prop} (hf : compF P (muL mu) f = some ⟨n, c, res⟩) (hl : Nat.ble ds.length n = true) (h : W (cK P E n res (isK K) mu) [.code c] (updL (fun _ => .tup []) (fi ds 0)) st) : XCall P E f ds st K :=
  xcallO_at hf (Nat.le_of_ble_eq_true hl) (by rw [fi_init]; exact h.xs)
section
variable {P : Program} {E : Glob} {N : Nat} {res : List RA} {k : List KJ} {tm : Fr} {st : Store} {r v : AV} {vs : List AV} {mu : List Nat}
theorem rD [hd : DtV r] (h : resL E tm st res = some vs) (hr : pack vs = r) : W (cD P E N res r mu) (.code .ret :: k) tm st := rt h (by rw [hr]; exact hd.h)
theorem eD [hd : DtV r] (h : resL E tm st res = some vs) (hr : pack vs = r) : W (cD P E N res r mu) [] tm st := re h (by rw [hr]; exact hd.h)
theorem rD' (h : resL E tm st res = some vs) (hr : DS (pack vs) r) : W (cD P E N res r mu) (.code .ret :: k) tm st := rt h hr
theorem eD' (h : resL E tm st res = some vs) (hr : DS (pack vs) r) : W (cD P E N res r mu) [] tm st := re h hr
theorem rS {K : AV → Store → Prop} [hd : DtV v] (h : resL E tm st res = some vs) (hk : K v st) (hr : pack vs = v) : W (cK P E N res (isK K) mu) (.code .ret :: k) tm st := rt h (isk (by rw [hr]; exact hd.h) hk)
theorem eS {K : AV → Store → Prop} [hd : DtV v] (h : resL E tm st res = some vs) (hk : K v st) (hr : pack vs = v) : W (cK P E N res (isK K) mu) [] tm st := re h (isk (by rw [hr]; exact hd.h) hk)
theorem rS' {K : AV → Store → Prop} (h : resL E tm st res = some vs) (hk : K v st) (hr : DS (pack vs) v) : W (cK P E N res (isK K) mu) (.code .ret :: k) tm st := rt h (isk hr hk)
theorem eS' {K : AV → Store → Prop} (h : resL E tm st res = some vs) (hk : K v st) (hr : DS (pack vs) v) : W (cK P E N res (isK K) mu) [] tm st := re h (isk hr hk)
theorem rK {K : AV → Store → Prop} (h : resL E tm st res = some vs) (hk : K v st) (hr : pack vs = v) : W (cK P E N res K mu) (.code .ret :: k) tm st := rt h (by rw [hr]; exact hk)
theorem eK {K : AV → Store → Prop} (h : resL E tm st res = some vs) (hk : K v st) (hr : pack vs = v) : W (cK P E N res K mu) [] tm st := re h (by rw [hr]; exact hk)
theorem rl0 : resL E tm st [] = some [] := rfl
theorem rlt {t : Nat} {vs : List AV} {rs : List RA} (hl : resL E tm st rs = some vs) : resL E tm st (.tmp t :: rs) = some (tm t :: vs) := rl_tmp rfl hl
end
/-- A function that hands back a slice of its own, as one that hands back plain data. -/
theorem dfun_own {P : Program} {E : Glob} {f : FuncId} {ds : List AV} {α : Type} {es : Nat} {g : α → AV} [hg : DtF g] {o : Sl α} (h : ∀ (st : Store) (L : List Asn) (K : AV → Store → Prop), SH st L → (∀ st id, SH st (ownA id o :: L) → K (ownV es g o id) st) → XCall P E f ds st K) : DFun P E f ds (slV es g o) :=
  h [] [] _ SH.nil fun st id hs => ⟨own_data hg.h, own_strip hg.h⟩
end Go.Proofs.Ytjbafmnocopofaa.AW
