/-
  The abstract walk: code, and what it asks for.
-/
import Derived.Test.YtcidnoghoifmmaaDoorFwO
import Derived.Laws.Externs
import Derived.RangeFuncRecord
import Derived.OrdersIn
import Derived.TacticsIn
import Derived.KernelRfl
namespace Go.Proofs.YtcidnoghoifmmaaDoor.AW
open Go

inductive AK where
  | plain (i : AI)
  | call (f : FuncId) (args : List AX)
  | callv (f : AX) (args : List AX)
  deriving Inhabited

structure AOp where
  dst : Option Nat
  guard : Option (Nat × Bool)
  ins : AK
  deriving Inhabited

def ixbOk (P : Program) (f : FuncId) : Bool :=
  match P.funcs[f]? with
  | some fn => fn.name == "internal/bytealg.IndexByteString" && fn.body.isNone && (Extern.findNext fn).isNone
  | none => false

def compK (P : Program) (mu : Bool) : Op → Option AK
  | .call c => match c.callee with
    | .value (.func f) => match c.args.toList.mapM cX with
      | some as => if callable P f then some (if mu = true then .callv (.c (.fn f [])) as else .call f as) else if ixbOk P f then (match as with
        | [x, y] => some (.plain (.ixB x y))
        | _ => none) else none
      | none => none
    | .value f => match cX f, c.args.toList.mapM cX with
      | some x, some as => some (.callv x as)
      | _, _ => none
    | _ => (compCall P mu c).map .plain
  | op => (comp P mu op).map .plain

def dstOk (N : Nat) : Option Nat → Bool
  | none => true
  | some d => decide (d < N)

def muOf (mu : Nat → Bool) : Option Nat → Bool
  | none => false
  | some d => mu d

def compOp (P : Program) (N : Nat) (mu : Nat → Bool) (ops : Array Oper) (o : Oper) : Option AOp :=
  match compK P (muOf mu o.dst) o.op with
  | some i =>
    if dstOk N o.dst then
      match o.guard with
      | none => some ⟨o.dst, none, i⟩
      | some (j, b) => match (ops[j]?).bind (·.dst) with
        | some d => some ⟨o.dst, some (d, b), i⟩
        | none => none
    else none
  | none => none

def mu2 (mu : Nat → Bool) : Option Nat → Bool
  | none => false
  | some d => mu (d + 2000000)
def compOpR (P : Program) (N : Nat) (mu : Nat → Bool) (ops : Array Oper) (o : Oper) : Option AOp :=
  if mu2 mu o.dst = true then match rowLit P o.op with
    | some i => if dstOk N o.dst = true ∧ o.guard = none then some ⟨o.dst, none, .plain i⟩ else none
    | none => none
  else compOp P N mu ops o

abbrev fen (ro : Option Nat) : Fence := { Fence.wide with round := ro }
theorem fen_room {ro : Option Nat} (n : Nat) : (fen ro).room n := room_wide n

def Marks (B : Nat) (G : Gh) (l : List Deferred) (w : World) : Prop :=
  B ≤ w.heap.size ∧ ∃ ms : List Nat, l = ms.map (fun D => { target := .collected D, args := #[] }) ∧ ms.Nodup ∧ ∀ D ∈ ms, B ≤ D ∧ w.heap[D]? = some (.deferred (some [])) ∧ ∀ s ∈ G.slots, s.blk ≠ some D

theorem Marks.nil {B : Nat} (G : Gh) {w : World} (h : B ≤ w.heap.size) : Marks B G [] w := ⟨h, [], rfl, List.nodup_nil, fun D h => by cases h⟩
theorem heap_lt {w : World} {b : Nat} {x : Obj} (h : w.heap[b]? = some x) : b < w.heap.size := by
  rcases Nat.lt_or_ge b w.heap.size with h' | h'
  · exact h'
  · rw [Array.getElem?_eq_none h'] at h; cases h
theorem Marks.ext {B : Nat} {G G' : Gh} {l : List Deferred} {w w' : World} (h : Marks B G l w) (he : Ext G w G' w') : Marks B G' l w' := by
  obtain ⟨h0, ms, h1, h2, h3⟩ := h
  refine ⟨Nat.le_trans h0 he.size, ms, h1, h2, fun D hD => ?_⟩
  obtain ⟨k1, k2, k3⟩ := h3 D hD
  have hl := heap_lt k2
  refine ⟨k1, by rw [he.block D hl k3]; exact k2, fun s hs hb => ?_⟩
  rcases he.newS s hs D hb with ⟨s', hs', hb'⟩ | h'
  · exact k3 s' hs' hb'
  · omega

structure Rel (B : Nat) (N : Nat) (E : Glob) (G : Gh) (tm : Fr) (st : Store) (a : Act) (w : World) : Prop where
  size : a.tmps.size = N
  defers : Marks B G a.defers w
  fr : FrRel G tm a
  st : StoreRel E G st w

def XCall (P : Program) (E : Glob) (f : FuncId) (ds : List AV) (st : Store) (K : AV → Store → Prop) : Prop :=
  ∀ (G : Gh) (w : World) (vs : List Value), RepL G ds vs → StoreRel E G st w →
    Calls P f vs.toArray w fun e w' => ∃ u r st' G', e = .returned u ∧ Rep G' r u ∧ StoreRel E G' st' w' ∧ Ext G w G' w' ∧ K r st'

theorem XCall.mono {P : Program} {E : Glob} {f : FuncId} {ds : List AV} {st : Store} {K K' : AV → Store → Prop} (h : XCall P E f ds st K) (hk : ∀ r st', K r st' → K' r st') : XCall P E f ds st K' := fun G w vs hr hs =>
  (h G w vs hr hs).mono fun _ _ ⟨u, r, st', G', h1, h2, h3, h4, h5⟩ => ⟨u, r, st', G', h1, h2, h3, h4, hk _ _ h5⟩

def XYield (P : Program) (E : Glob) (id : Nat) (ds : List AV) (st : Store) (K : AV → Store → Prop) : Prop :=
  ∀ (G : Gh) (w : World) (vs : List Value), RepL G ds vs → StoreRel E G st w → ∃ b r, G.slots[id]? = some (.box b) ∧ w.heap[b]? = some (.loop r) ∧ vs.length = r.params.size ∧
    RoundIn Fence.wide 0 P b r.fn ((r.params.zip vs.toArray).foldl (fun tmps (t, a) => tmps.setIfInBounds t a) r.tmps) r.assign r.body w
      fun e w' => ∃ u x st' G', e = .returned u ∧ Rep G' x u ∧ StoreRel E G' st' w' ∧ Ext G w G' w' ∧ K x st'

theorem XYield.mono {P : Program} {E : Glob} {id : Nat} {ds : List AV} {st : Store} {K K' : AV → Store → Prop} (h : XYield P E id ds st K) (hk : ∀ r st', K r st' → K' r st') : XYield P E id ds st K' := fun G w vs hr hs =>
  let ⟨b, r, h1, h2, h3, h4⟩ := h G w vs hr hs
  ⟨b, r, h1, h2, h3, h4.mono fun _ _ ⟨u, x, st', G', q1, q2, q3, q4, q5⟩ => ⟨u, x, st', G', q1, q2, q3, q4, hk _ _ q5⟩⟩

def xAI (P : Program) (E : Glob) (i : AK) (tm : Fr) (st : Store) (K : AV → Store → Prop) : Prop :=
  match i with
  | .call f as => XCall P E f (as.map tm.x) st K
  | .callv x as => match tm.x x with
    | .fn g caps => callable P g = true ∧ XCall P E g (as.map tm.x ++ caps) st K
    | .yld id => XYield P E id (as.map tm.x) st K
    | _ => False
  | .plain i => match evalAI E tm st i with
    | some (v, st') => K v st'
    | none => False

def xOps (P : Program) (E : Glob) : List AOp → (Fr → Store → Prop) → Fr → Store → Prop
  | [], K, tm, st => K tm st
  | o :: l, K, tm, st =>
    match o.guard with
    | none => xAI P E o.ins tm st fun v st' => xOps P E l K (tm.put o.dst v) st'
    | some (d, b) => match tm d with
      | .bool t => if t = b then xAI P E o.ins tm st fun v st' => xOps P E l K (tm.put o.dst v) st' else xOps P E l K (tm.put o.dst (.tup [])) st
      | .tup _ => xOps P E l K (tm.put o.dst (.tup [])) st
      | _ => False

section
variable {P : Program} {E : Glob} {B N : Nat} {ro : Option Nat} {mu : Nat → Bool}

theorem put_size (a : Act) (d : Option Nat) (v : Value) : (a.put d v).tmps.size = a.tmps.size := by cases d <;> simp [Act.put]
theorem put_defers (a : Act) (d : Option Nat) (v : Value) : (a.put d v).defers = a.defers := by cases d <;> rfl

theorem FrRel.put {G : Gh} {tm : Fr} {a : Act} {d : Option Nat} {v : AV} {u : Value} (hf : FrRel G tm a) (hd : ∀ x, d = some x → x < a.tmps.size) (hr : Rep G v u) : FrRel G (tm.put d v) (a.put d u) := by
  intro t
  cases d with
  | none =>
    have : (tm.put none v) t = tm t := by simp [Fr.put]
    rw [this]; exact hf t
  | some x =>
    by_cases e : x = t
    · subst e
      have h1 : (tm.put (some x) v) x = v := by simp [Fr.put]
      have h2 : (a.put (some x) u).tmps.getD x undef = u := by simp [Act.put, hd x rfl]
      rw [h1, h2]; exact hr
    · have h1 : (tm.put (some x) v) t = tm t := by simp [Fr.put, e]
      have h2 : (a.put (some x) u).tmps.getD t undef = a.tmps.getD t undef := by simp [Act.put, Array.getElem?_setIfInBounds_ne e]
      rw [h1, h2]; exact hf t

theorem Rel.put {G : Gh} {tm : Fr} {st : Store} {a : Act} {w : World} {d : Option Nat} {v : AV} {u : Value} (h : Rel B N E G tm st a w) (hd : ∀ x, d = some x → x < N) (hr : Rep G v u) : Rel B N E G (tm.put d v) st (a.put d u) w :=
  ⟨by rw [put_size]; exact h.size, by rw [put_defers]; exact h.defers, h.fr.put (fun x hx => by rw [h.size]; exact hd x hx) hr, h.st⟩

theorem Rel.ext {G G' : Gh} {tm : Fr} {st st' : Store} {a : Act} {w w' : World} (h : Rel B N E G tm st a w) (hg : Ext G w G' w') (hs : StoreRel E G' st' w') : Rel B N E G' tm st' a w' := ⟨h.size, h.defers.ext hg, h.fr.mono hg.g, hs⟩

theorem rep_undef (G : Gh) : Rep G (.tup []) undef := by simp only [Rep, RepL, undef]; exact ⟨[], rfl, rfl⟩

theorem compOp_spec {ops : Array Oper} {o : Oper} {x : AOp} (h : compOp P N mu ops o = some x) : x.dst = o.dst ∧ (∀ d, o.dst = some d → d < N) ∧ compK P (muOf mu o.dst) o.op = some x.ins ∧
    ((o.guard = none ∧ x.guard = none) ∨ ∃ j b d, o.guard = some (j, b) ∧ (ops[j]?).bind (·.dst) = some d ∧ x.guard = some (d, b)) := by
  unfold compOp at h
  split at h
  · rename_i i hi
    split at h
    · rename_i hd
      have hd' : ∀ d, o.dst = some d → d < N := by
        intro d e
        rw [e] at hd
        simpa [dstOk] using hd
      split at h
      · rename_i hg
        cases h
        exact ⟨rfl, hd', hi, .inl ⟨hg, rfl⟩⟩
      · rename_i j b hg
        split at h
        · rename_i d hj
          cases h
          exact ⟨rfl, hd', hi, .inr ⟨j, b, d, hg, hj, rfl⟩⟩
        · cases h
    · cases h
  · cases h

theorem mapM_getElem? {α β : Type} {f : α → Option β} : ∀ {l : List α} {l' : List β}, l.mapM f = some l' → ∀ (i : Nat) a, l[i]? = some a → ∃ b, l'[i]? = some b ∧ f a = some b
  | [], l', h, i, a, ha => by simp at ha
  | x :: l, l', h, i, a, ha => by
    simp only [List.mapM_cons, Option.bind_eq_bind, Option.bind_eq_some_iff, Option.pure_def, Option.some.injEq] at h
    obtain ⟨y, hy, ys, hys, rfl⟩ := h
    cases i with
    | zero => simp at ha; subst ha; exact ⟨y, rfl, hy⟩
    | succ i => simpa using mapM_getElem? hys i a (by simpa using ha)

theorem callFunc_run {f : FuncId} {args : Array Value} {w : World} (h : callable P f = true) : (callFunc f args).run P w = .ok (.enter f args) w := by
  unfold callable at h
  split at h
  · rename_i fn hfn
    simp only [Bool.and_eq_true, Bool.not_eq_eq_eq_not, Bool.not_true] at h
    have hb : fn.body.isNone = false := by
      cases hbd : fn.body with
      | none => rw [hbd] at h; simp at h
      | some c => rfl
    have hn : (fn.name == "runtime.NumGoroutine") = false := h.2
    simp only [callFunc, Sem.run_bind, run_program, Result.andThen_ok, hfn, hn, hb, Bool.false_eq_true, if_false, Sem.run_pure]
  · cases h

theorem findIxb {fn : Func} (h : fn.name = "internal/bytealg.IndexByteString") : Extern.find fn = some Extern.BytealgIndexByte.indexByte := by
  have key : ∀ (a b c : Array TypeId) (n : String), n = "internal/bytealg.IndexByteString" → ((Extern.allGenericRows.lookup n).map (fun (g : Extern.Generic) => g a b c) <|> (Extern.allTypedRows.lookup n).map (fun (g : Extern.Typed) => g b c) <|> Extern.allRows.lookup n) = some Extern.BytealgIndexByte.indexByte := by
    intro a b c n hn
    subst hn
    kernel_rfl
  unfold Extern.find
  simp only [key _ _ _ _ h]
  rfl

theorem ixb_run {f : FuncId} (h : ixbOk P f = true) (s : ByteArray) (c : Int) (w : World) : (callFunc f #[.string s, .int .u8 c]).run P w = .ok (.value (.int .i64 (Lib.indexByte s.data.toList c.toNat.toUInt8))) w := by
  unfold ixbOk at h
  split at h
  · rename_i fn hfn
    simp only [Bool.and_eq_true, beq_iff_eq] at h
    obtain ⟨⟨hn, hb⟩, hx⟩ := h
    have hx' : Extern.findNext fn = none := by simpa using hx
    rw [run_callFunc_extern hfn (by rw [hn]; decide) hb hx' (findIxb hn), Lib.run_indexByteString]
    rfl
  · cases h

theorem compK_noDefer {m : Bool} {op : Op} {i : AK} (h : compK P m op = some i) : ∀ c, op ≠ .defer c := fun c e => by
  subst e
  simp [compK, comp] at h

theorem wpIn_of {o : Oper} {a : Act} {w : World} {next : Act → World → Prop} {Q : Exit → Act → World → Prop} (hd : ∀ c, o.op ≠ .defer c) (h : o.uponIn (fen ro) 0 P a next Q ((execOp a.eval o).run P w)) : o.wpIn (fen ro) 0 P a w next Q := by
  refine ⟨fun _ _ => trivial, ?_⟩
  rw [Oper.semAt_eq ro a.eval o hd]
  exact h

theorem notSome {α : Prop} {x : Option Nat} (h : x = none) : x.isSome = true → α := fun e => by rw [h] at e; cases e

def RunsPlain (P : Program) (E : Glob) (o : Oper) (a : Act) (tm : Fr) (st : Store) (G : Gh) (w : World) (i : AI) : Prop :=
  ∀ v st', evalAI E tm st i = some (v, st') → RunsOp P E (execOp a.eval o) w G v st'

theorem xAI_sound {o : Oper} {m : Bool} {i : AK} {G : Gh} {tm : Fr} {st : Store} {a : Act} {w : World} {K : AV → Store → Prop} {next : Act → World → Prop} {Q : Exit → Act → World → Prop} (h : Rel B N E G tm st a w) (hc : compK P m o.op = some i) (hx : xAI P E i tm st K)
    (hn : ∀ u v st' G' w', Rep G' v u → StoreRel E G' st' w' → Ext G w G' w' → K v st' → next (a.put o.dst u) w') : o.wpIn (fen ro) 0 P a w next Q := by
  have hnd := compK_noDefer hc
  have plain : ∀ i, RunsPlain P E o a tm st G w i → (match evalAI E tm st i with | some (v, st') => K v st' | none => False) → o.wpIn (fen ro) 0 P a w next Q := by
    intro i hp hh
    split at hh
    · rename_i v st' he
      obtain ⟨u, w', G', hr, h1, h2, h3⟩ := hp v st' he
      refine wpIn_of hnd ?_
      rcases hr with hr | ⟨hr, rfl⟩
      · rw [hr]; exact hn _ _ _ _ _ h1 h2 h3 hh
      · rw [hr]; exact hn _ _ _ _ _ h1 h2 h3 hh
    · exact hh.elim
  have callcase : ∀ (f : FuncId) (ds : List AV) (us : List Value), RepL G ds us → (execOp a.eval o).run P w = .ok (.enter f us.toArray) w → XCall P E f ds st K → o.wpIn (fen ro) 0 P a w next Q := by
    intro f ds us hr hrun hcall
    refine wpIn_of hnd ?_
    rw [hrun]
    refine ⟨notSome rfl, (callsIn_wide.2 (hcall G w us hr h.st)).mono (F := Fence.wide) fun e w' ⟨u, r, st', G', he, h1, h2, h3, h4⟩ => ?_⟩
    subst he
    exact hn _ _ _ _ _ h1 h2 h3 h4
  have gen : ∀ op, o.op = op → (∀ c, op ≠ .call c) → compK P m op = some i → o.wpIn (fen ro) 0 P a w next Q := by
    intro op hop hne hc
    have : ∃ i', i = .plain i' ∧ comp P m op = some i' := by
      cases op <;> simp only [compK, Option.map_eq_some_iff] at hc <;> first
        | exact absurd rfl (hne _)
        | (obtain ⟨i', h1, h2⟩ := hc; exact ⟨i', h2.symm, h1⟩)
    obtain ⟨i', rfl, hci⟩ := this
    exact plain i' (fun v st' he => eval_sound h.st h.fr (hop ▸ hci) he) hx
  by_cases hcall : ∃ c, o.op = .call c
  · obtain ⟨c, hop⟩ := hcall
    rw [hop] at hc
    simp only [compK] at hc
    split at hc
    · rename_i f hcal
      split at hc
      · rename_i as has
        split at hc
        · rename_i hcb
          cases hc
          have hx2 : XCall P E f (as.map tm.x) st K := by
            by_cases hm : m = true
            · subst hm
              simp only [if_true, xAI, Fr.x, List.append_nil] at hx
              exact hx.2
            · rw [if_neg hm] at hx
              exact hx
          refine callcase f _ _ (mapM_rep h.fr has) ?_ hx2
          have := callFunc_run (P := P) (w := w) (args := (c.args.toList.map a.eval).toArray) hcb
          simp only [execOp, hop, resolve, hcal, Deferred.ofValue, Act.eval, pure_bind, invoke, Array.append_empty, Array.empty_append]
          rw [← this]
          congr 2
          apply Array.ext'
          simp
        · split at hc
          · rename_i hixb
            split at hc
            · rename_i x y
              cases hc
              refine plain (.ixB x y) (fun v st' he => ?_) hx
              simp only [evalAI] at he
              split at he
              · rename_i s n hx1 hy1
                cases he
                have hm := mapM_rep h.fr has
                simp only [List.map_cons, List.map_nil, RepL] at hm
                obtain ⟨u1, us1, e1, hr1, u2, us2, e2, hr2, e3⟩ := hm
                rw [hx1] at hr1
                rw [hy1] at hr2
                simp only [Rep] at hr1 hr2
                obtain ⟨b, hb, rfl⟩ := hr1
                subst hr2; subst e3; subst e2
                refine ⟨.int .i64 (Lib.indexByte s n.toNat.toUInt8), w, G, .inl ?_, rep_int _ _, h.st, Ext.refl G w⟩
                have := ixb_run (P := P) hixb b n w
                rw [hb] at this
                simp only [execOp, hop, resolve, hcal, Deferred.ofValue, Act.eval, pure_bind, invoke, Array.append_empty, Array.empty_append]
                rw [← this]
                congr 2
                apply Array.ext'
                simpa using e1
              · cases he
            · cases hc
          · cases hc
      · cases hc
    · rename_i f _ hcal
      split at hc
      · rename_i x as hx' has
        cases hc
        simp only [xAI] at hx
        split at hx
        · rename_i g caps hg
          obtain ⟨hcb, hx⟩ := hx
          have hf := rep_cX h.fr hx'
          rw [hg] at hf
          simp only [Rep] at hf
          obtain ⟨us, hus, hev⟩ := hf
          refine callcase g _ _ (repL_append (mapM_rep h.fr has) hus) ?_ hx
          have := callFunc_run (P := P) (w := w) (args := (c.args.toList.map a.eval ++ us).toArray) hcb
          simp only [execOp, hop, resolve, hcal, Deferred.ofValue, hev, pure_bind, invoke, Array.empty_append]
          rw [← this]
          congr 2
          apply Array.ext'
          simp
        · rename_i id hg
          have hf := rep_cX h.fr hx'
          rw [hg] at hf
          obtain ⟨b, r, k1, k2, k3, k4⟩ := hx G w _ (mapM_rep h.fr has) h.st
          simp only [Rep, k1] at hf
          refine wpIn_of hnd ?_
          have hrun : (execOp a.eval o).run P w = .ok (.round b r.fn ((r.params.zip (c.args.toList.map a.eval).toArray).foldl (fun tmps (t, a) => tmps.setIfInBounds t a) r.tmps) r.assign r.body) w := by
            have := run_yield (P := P) (args := (c.args.toList.map a.eval).toArray) k2 (by simpa using k3)
            simp only [execOp, hop, resolve, hcal, Deferred.ofValue, hf, pure_bind, invoke, Array.empty_append]
            rw [← this]
            congr 2
            apply Array.ext'
            simp
          rw [hrun]
          refine ⟨notSome rfl, RoundIn.mono (F := Fence.wide) k4 fun e w' ⟨u, x, st', G', he, h1, h2, h3, h4⟩ => ?_⟩
          subst he
          exact hn _ _ _ _ _ h1 h2 h3 h4
        · exact hx.elim
      · cases hc
    · simp only [Option.map_eq_some_iff] at hc
      obtain ⟨i', hi', rfl⟩ := hc
      exact plain i' (fun v st' he => compCall_sound h.st h.fr hi' he o hop rfl) hx
  · exact gen o.op rfl (fun c e => hcall ⟨c, e⟩) hc

def OpSpec (P : Program) (N : Nat) (mu : Nat → Bool) (ops : Array Oper) (o : Oper) (x : AOp) : Prop := x.dst = o.dst ∧ (∀ d, o.dst = some d → d < N) ∧ (compK P (muOf mu o.dst) o.op = some x.ins ∨ ∃ i, rowLit P o.op = some i ∧ x.ins = .plain i) ∧
    ((o.guard = none ∧ x.guard = none) ∨ ∃ j b d, o.guard = some (j, b) ∧ (ops[j]?).bind (·.dst) = some d ∧ x.guard = some (d, b))
theorem opSpec_of {ops : Array Oper} {o : Oper} {x : AOp} (h : compOp P N mu ops o = some x) : OpSpec P N mu ops o x := by
  obtain ⟨h1, h2, h3, h4⟩ := compOp_spec h
  exact ⟨h1, h2, .inl h3, h4⟩
theorem opSpecR_of {ops : Array Oper} {o : Oper} {x : AOp} (h : compOpR P N mu ops o = some x) : OpSpec P N mu ops o x := by
  unfold compOpR at h
  split at h
  · split at h
    · rename_i i hi
      split at h
      · rename_i hd
        cases h
        refine ⟨rfl, fun d e => ?_, .inr ⟨i, hi, rfl⟩, .inl ⟨hd.2, rfl⟩⟩
        have hd1 := hd.1
        rw [e] at hd1
        simpa [dstOk] using hd1
      · cases h
    · cases h
  · exact opSpec_of h
theorem xAI_soundR {o : Oper} {m : Bool} {i : AK} {G : Gh} {tm : Fr} {st : Store} {a : Act} {w : World} {K : AV → Store → Prop} {next : Act → World → Prop} {Q : Exit → Act → World → Prop} (h : Rel B N E G tm st a w) (hc : compK P m o.op = some i ∨ ∃ i', rowLit P o.op = some i' ∧ i = .plain i') (hx : xAI P E i tm st K)
    (hn : ∀ u v st' G' w', Rep G' v u → StoreRel E G' st' w' → Ext G w G' w' → K v st' → next (a.put o.dst u) w') : o.wpIn (fen ro) 0 P a w next Q := by
  rcases hc with hc | ⟨i', hc, rfl⟩
  · exact xAI_sound h hc hx hn
  · have hnd : ∀ c, o.op ≠ .defer c := fun c e => by
      rw [e] at hc
      simp [rowLit] at hc
    simp only [xAI] at hx
    split at hx
    · rename_i v st' he
      obtain ⟨u, w', G', hr, h1, h2, h3⟩ := rowLit_sound h.st h.fr hc he
      refine wpIn_of hnd ?_
      rcases hr with hr | ⟨hr, rfl⟩
      · rw [hr]; exact hn _ _ _ _ _ h1 h2 h3 hx
      · rw [hr]; exact hn _ _ _ _ _ h1 h2 h3 hx
    · exact hx.elim
theorem xOps_soundG {cop : Oper → Option AOp} {ops : Array Oper} {Q : Exit → Act → World → Prop} {K : Fr → Store → Prop} (hcop : ∀ o x, cop o = some x → OpSpec P N mu ops o x) : ∀ (l : List Oper) (al : List AOp), l.mapM cop = some al → ∀ {G : Gh} {tm : Fr} {st : Store} {a : Act} {w : World}, Rel B N E G tm st a w → xOps P E al K tm st →
    (∀ G' tm' st' a' w', Rel B N E G' tm' st' a' w' → Ext G w G' w' → K tm' st' → Q .normal a' w') → wpListIn (fen ro) 0 P ops Q l a w
  | [], al, hm, G, tm, st, a, w, h, hx, hq => by
    simp at hm; subst hm
    exact hq G tm st a w h (Ext.refl G w) hx
  | o :: l, al, hm, G, tm, st, a, w, h, hx, hq => by
    simp only [List.mapM_cons, Option.bind_eq_bind, Option.bind_eq_some_iff, Option.pure_def, Option.some.injEq] at hm
    obtain ⟨x, hxo, al', hal, rfl⟩ := hm
    obtain ⟨hdst, hdn, hcomp, hg⟩ := hcop _ _ hxo
    have run : Region.wanted o (yielded ops a.tmps) = true → xAI P E x.ins tm st (fun v st' => xOps P E al' K (tm.put x.dst v) st') → wpListIn (fen ro) 0 P ops Q (o :: l) a w := by
      intro hw hx
      unfold wpListIn
      rw [if_pos hw]
      refine xAI_soundR h hcomp hx fun u v st' G' w' h1 h2 h3 h4 => ?_
      rw [hdst] at h4
      exact xOps_soundG hcop l al' hal ((h.ext h3 h2).put hdn h1) h4 fun G'' tm' st'' a' w'' q1 q2 q3 => hq _ _ _ _ _ q1 (h3.trans q2) q3
    simp only [xOps] at hx
    rcases hg with ⟨g1, g2⟩ | ⟨j, b, d, g1, gj, g2⟩
    · rw [g2] at hx
      exact run (by simp [Region.wanted, g1]) hx
    · rw [g2] at hx
      simp only at hx
      split at hx
      · rename_i t ht
        have hd := h.fr d
        rw [ht] at hd
        simp only [Rep] at hd
        have hy : yielded ops a.tmps j = some t := by
          have hlt : d < a.tmps.size := by
            rcases Nat.lt_or_ge d a.tmps.size with h' | h'
            · exact h'
            · exfalso
              simp [Array.getElem?_eq_none h', undef] at hd
          have : a.tmps[d]? = some (.bool t) := by
            simp [hlt] at hd ⊢
            exact hd
          simp [yielded, gj, this]
        split at hx
        · rename_i hb
          exact run (by simp [Region.wanted, g1, hy, hb]) hx
        · rename_i hb
          unfold wpListIn
          rw [if_neg (by simp [Region.wanted, g1, hy, hb])]
          rw [hdst] at hx
          refine ⟨fun _ _ => trivial, ?_⟩
          exact xOps_soundG hcop l al' hal (h.put hdn (rep_undef G)) hx hq
      · rename_i vs ht
        have hd := h.fr d
        rw [ht] at hd
        simp only [Rep] at hd
        obtain ⟨us, _, hd⟩ := hd
        have hy : yielded ops a.tmps j = none := by
          have : a.tmps[d]? = none ∨ a.tmps[d]? = some (.tuple us.toArray) := by
            rcases Nat.lt_or_ge d a.tmps.size with h' | h'
            · right; simp [h'] at hd ⊢; exact hd
            · left; exact Array.getElem?_eq_none h'
          rcases this with this | this <;> simp [yielded, gj, this]
        unfold wpListIn
        rw [if_neg (by simp [Region.wanted, g1, hy])]
        rw [hdst] at hx
        refine ⟨fun _ _ => trivial, ?_⟩
        exact xOps_soundG hcop l al' hal (h.put hdn (rep_undef G)) hx hq
      · exact hx.elim

theorem xOps_sound {ops : Array Oper} {Q : Exit → Act → World → Prop} {K : Fr → Store → Prop} (l : List Oper) (al : List AOp) (hm : l.mapM (compOp P N mu ops) = some al) {G : Gh} {tm : Fr} {st : Store} {a : Act} {w : World} (h : Rel B N E G tm st a w) (hx : xOps P E al K tm st)
    (hq : ∀ G' tm' st' a' w', Rel B N E G' tm' st' a' w' → Ext G w G' w' → K tm' st' → Q .normal a' w') : wpListIn (fen ro) 0 P ops Q l a w :=
  xOps_soundG (mu := mu) (fun _ _ => opSpec_of) l al hm h hx hq
theorem xOps_soundR {ops : Array Oper} {Q : Exit → Act → World → Prop} {K : Fr → Store → Prop} (l : List Oper) (al : List AOp) (hm : l.mapM (compOpR P N mu ops) = some al) {G : Gh} {tm : Fr} {st : Store} {a : Act} {w : World} (h : Rel B N E G tm st a w) (hx : xOps P E al K tm st)
    (hq : ∀ G' tm' st' a' w', Rel B N E G' tm' st' a' w' → Ext G w G' w' → K tm' st' → Q .normal a' w') : wpListIn (fen ro) 0 P ops Q l a w :=
  xOps_soundG (mu := mu) (fun _ _ => opSpecR_of) l al hm h hx hq

end
end Go.Proofs.YtcidnoghoifmmaaDoor.AW
