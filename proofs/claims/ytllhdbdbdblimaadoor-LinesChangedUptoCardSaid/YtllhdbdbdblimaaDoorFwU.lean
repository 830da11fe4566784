/-
  The abstract walk: code, and what it asks for.
-/
import Derived.Test.YtllhdbdbdblimaaDoorFwV
namespace Go.Proofs.YtllhdbdbdblimaaDoor.AW
open Go

inductive ACode where
  | skip
  | seq (a b : ACode)
  | cond (x : AX) (a b : ACode)
  | block (id : Nat) (b : ACode)
  | loop (b : ACode)
  | exit (id : Nat)
  | ret
  | ops (l : List AOp)
  | draw (sas : List AX) (mr nb : Nat) (q suf : List AOp)
  deriving Inhabited

inductive AExit where
  | normal
  | exit (id : Nat)
  | ret

def ExRel : Exit → AExit → Prop
  | .normal, .normal => True
  | .exit i, .exit j => i = j
  | .ret, .ret => True
  | _, _ => False

def compDrawAt (al : List AOp) (nq : Nat) : ACode := .draw (storeAt (al.take nq)) (mapRk al) (nBorn (al.take nq)) (al.take nq) (al.drop nq)

def compDraw (P : Program) (ops : Array Oper) (al : List AOp) : Option ACode :=
  if P.follows .mixedOrders = true then
    (if drawOk ops al (quietC al) = true then some (compDrawAt al (quietC al))
    else if drawOk ops al (quietN false al) = true then some (compDrawAt al (quietN false al))
    else if drawOk ops al (quietN true al) = true then some (compDrawAt al (quietN true al)) else none)
  else none

/-- What has no plain code: nothing is claimed of a run that comes here. -/
def failOp : AOp := ⟨none, none, .plain (.ixB (.c .nils) (.c .nils))⟩
def bad : ACode := .ops [failOp]

def compC (P : Program) (N : Nat) (mu : Nat → Bool) : Code → Option ACode
  | .skip => some .skip
  | .seq a b => match compC P N mu a, compC P N mu b with
    | some x, some y => some (.seq x y)
    | _, _ => none
  | .cond c a b => match cX c, compC P N mu a, compC P N mu b with
    | some z, some x, some y => some (.cond z x y)
    | _, _, _ => none
  | .block id b => (compC P N mu b).map (.block id)
  | .loop b => (compC P N mu b).map .loop
  | .exit id => some (.exit id)
  | .ret => some .ret
  | .region _ ops false => match ops.toList.mapM (compOp P N mu ops) with
    | some al => some (.ops al)
    | none => some bad
  | .region _ ops true => match ops.toList.mapM (compOp P N mu ops) with
    | some al => match compDraw P ops al with
      | some c => some c
      | none => some bad
    | none => some bad
  | _ => some bad

def AWP (P : Program) (E : Glob) (N : Nat) (c : Code) (Q : AExit → Fr → Store → Prop) (tm : Fr) (st : Store) : Prop :=
  ∀ G a w, Rel N E G tm st a w → c.wp P (fun e a' w' => ∃ x tm' st' G', ExRel e x ∧ Rel N E G' tm' st' a' w' ∧ Ext G w G' w' ∧ Q x tm' st') a w

/-- At a loop's head, its body about to run. -/
def XLoop (P : Program) (E : Glob) (N : Nat) (mu : Nat → Bool) (b : ACode) (Q : AExit → Fr → Store → Prop) (tm : Fr) (st : Store) : Prop :=
  ∀ c, compC P N mu c = some b → ∀ G a w, Rel N E G tm st a w → ∀ f k cs, ∃ e a' w', (∃ x tm' st' G', ExRel e x ∧ Rel N E G' tm' st' a' w' ∧ Ext G w G' w' ∧ Q x tm' st') ∧ Arrives P (lone (f.at a (.code c :: .inLoop c :: k)) cs w) f k cs e a' w'

/-- What code asks for. -/
def xCode (P : Program) (E : Glob) (N : Nat) (mu : Nat → Bool) : ACode → (AExit → Fr → Store → Prop) → Fr → Store → Prop
  | .skip, Q, tm, st => Q .normal tm st
  | .seq a b, Q, tm, st => xCode P E N mu a (fun e tm' st' => match e with
    | .normal => xCode P E N mu b Q tm' st'
    | .exit i => Q (.exit i) tm' st'
    | .ret => Q .ret tm' st') tm st
  | .cond x a b, Q, tm, st => match tm.x x with
    | .bool t => (t = true → xCode P E N mu a Q tm st) ∧ (t = false → xCode P E N mu b Q tm st)
    | _ => False
  | .block id b, Q, tm, st => xCode P E N mu b (fun e tm' st' => match e with
    | .normal => Q .normal tm' st'
    | .exit i => if i = id then Q .normal tm' st' else Q (.exit i) tm' st'
    | .ret => Q .ret tm' st') tm st
  | .loop b, Q, tm, st => XLoop P E N mu b Q tm st
  | .exit id, Q, tm, st => Q (.exit id) tm st
  | .ret, Q, tm, st => Q .ret tm st
  | .ops l, Q, tm, st => xOps P E l (Q .normal) tm st
  | .draw sas mr nb q suf, Q, tm, st => lexQ P E (maskS (sas.map tm.x) st) mr q 0 (fun tm' s => xOps P E suf (Q .normal) tm' s) tm (st ++ List.replicate nb .unborn)

section
variable {P : Program} {E : Glob} {N : Nat} {mu : Nat → Bool}

theorem ExRel.cases {e : Exit} {x : AExit} (h : ExRel e x) : (e = .normal ∧ x = .normal) ∨ (∃ i, e = .exit i ∧ x = .exit i) ∨ (e = .ret ∧ x = .ret) := by
  cases e <;> cases x <;> simp only [ExRel] at h <;> first
    | exact .inl ⟨rfl, rfl⟩
    | (subst h; exact .inr (.inl ⟨_, rfl, rfl⟩))
    | exact .inr (.inr ⟨rfl, rfl⟩)

theorem xbad {Q : AExit → Fr → Store → Prop} {tm : Fr} {st : Store} (h : xCode P E N mu bad Q tm st) : False := by
  simp only [bad, failOp, xCode, xOps, xAI, evalAI, Fr.x] at h

theorem xCode_sound : ∀ (c : Code) (ac : ACode), compC P N mu c = some ac → ∀ (Q : AExit → Fr → Store → Prop) (tm : Fr) (st : Store), xCode P E N mu ac Q tm st → AWP P E N c Q tm st
  | .skip, ac, hc, Q, tm, st, hx => fun G a w h => by
    simp only [compC, Option.some.injEq] at hc; subst hc
    exact wp_skip ⟨.normal, tm, st, G, trivial, h, Ext.refl G w, hx⟩
  | .ret, ac, hc, Q, tm, st, hx => fun G a w h => by
    simp only [compC, Option.some.injEq] at hc; subst hc
    exact wp_ret ⟨.ret, tm, st, G, trivial, h, Ext.refl G w, hx⟩
  | .exit id, ac, hc, Q, tm, st, hx => fun G a w h => by
    simp only [compC, Option.some.injEq] at hc; subst hc
    exact wp_exit ⟨.exit id, tm, st, G, rfl, h, Ext.refl G w, hx⟩
  | .seq x y, ac, hc, Q, tm, st, hx => fun G a w h => by
    simp only [compC] at hc
    split at hc
    · rename_i ax ay h1 h2
      cases hc
      simp only [xCode] at hx
      refine wp_seq (wp_mono (xCode_sound x ax h1 _ tm st hx G a w h) fun e a' w' ⟨xe, tm', st', G', he, hr, hext, hq⟩ => ?_)
      rcases he.cases with ⟨rfl, rfl⟩ | ⟨i, rfl, rfl⟩ | ⟨rfl, rfl⟩
      · simp only at hq
        exact wp_mono (xCode_sound y ay h2 Q tm' st' hq G' a' w' hr) fun e a'' w'' ⟨xe, tm'', st'', G'', q1, q2, q3, q4⟩ => ⟨xe, tm'', st'', G'', q1, q2, hext.trans q3, q4⟩
      · exact ⟨.exit i, tm', st', G', rfl, hr, hext, hq⟩
      · exact ⟨.ret, tm', st', G', trivial, hr, hext, hq⟩
    · cases hc
  | .cond c x y, ac, hc, Q, tm, st, hx => fun G a w h => by
    simp only [compC] at hc
    split at hc
    · rename_i ax a1 a2 h0 h1 h2
      cases hc
      simp only [xCode] at hx
      split at hx
      · rename_i t ht
        have hr := rep_cX h.fr h0
        rw [ht] at hr
        simp only [Rep] at hr
        exact wp_cond_split hr (fun e => xCode_sound x a1 h1 Q tm st (hx.1 e) G a w h) (fun e => xCode_sound y a2 h2 Q tm st (hx.2 e) G a w h)
      · exact hx.elim
    · cases hc
  | .block id b, ac, hc, Q, tm, st, hx => fun G a w h => by
    simp only [compC, Option.map_eq_some_iff] at hc
    obtain ⟨ab, hb, rfl⟩ := hc
    simp only [xCode] at hx
    refine wp_block (wp_mono (xCode_sound b ab hb _ tm st hx G a w h) fun e a' w' ⟨xe, tm', st', G', he, hr, hext, hq⟩ => ?_)
    rcases he.cases with ⟨rfl, rfl⟩ | ⟨i, rfl, rfl⟩ | ⟨rfl, rfl⟩
    · exact ⟨.normal, tm', st', G', trivial, hr, hext, hq⟩
    · simp only at hq
      simp only [Exit.inBlock]
      split
      · rename_i hi
        rw [if_pos hi] at hq
        exact ⟨.normal, tm', st', G', trivial, hr, hext, hq⟩
      · rename_i hi
        rw [if_neg hi] at hq
        exact ⟨.exit i, tm', st', G', rfl, hr, hext, hq⟩
    · exact ⟨.ret, tm', st', G', trivial, hr, hext, hq⟩
  | .loop b, ac, hc, Q, tm, st, hx => by
    simp only [compC, Option.map_eq_some_iff] at hc
    obtain ⟨ab, hb, rfl⟩ := hc
    intro G a w h f k cs
    obtain ⟨e, a', w', hq, harr⟩ := hx b hb G a w h f k cs
    exact ⟨e, a', w', hq, .of_steps (.one step_loop) harr⟩
  | .region id ops d, ac, hc, Q, tm, st, hx => fun G a w h => by
    cases d with
    | true =>
      simp only [compC] at hc
      split at hc
      · rename_i al hal
        split at hc
        · rename_i cc hcc
          cases hc
          simp only [compDraw] at hcc
          split at hcc
          · rename_i hmx
            split at hcc
            · rename_i hcond
              cases hcc
              simp only [xCode, compDrawAt] at hx
              exact draw_sound (quietC_le _) hmx hal hcond h hx fun G' tm' st' a' w' q1 q2 q3 => ⟨.normal, tm', st', G', trivial, q1, q2, q3⟩
            · split at hcc
              · rename_i hcond
                cases hcc
                simp only [xCode, compDrawAt] at hx
                exact draw_sound (quietN_le _ _) hmx hal hcond h hx fun G' tm' st' a' w' q1 q2 q3 => ⟨.normal, tm', st', G', trivial, q1, q2, q3⟩
              · split at hcc
                · rename_i hcond
                  cases hcc
                  simp only [xCode, compDrawAt] at hx
                  exact draw_sound (quietN_le _ _) hmx hal hcond h hx fun G' tm' st' a' w' q1 q2 q3 => ⟨.normal, tm', st', G', trivial, q1, q2, q3⟩
                · cases hcc
          · cases hcc
        · cases hc; exact (xbad hx).elim
      · cases hc; exact (xbad hx).elim
    | false =>
      simp only [compC] at hc
      split at hc
      case h_2 => cases hc; exact (xbad hx).elim
      rename_i al hal
      cases hc
      simp only [xCode] at hx
      exact wp_region_list (xOps_sound ops.toList al hal h hx fun G' tm' st' a' w' q1 q2 q3 => ⟨.normal, tm', st', G', trivial, q1, q2, q3⟩)
  | .rangeFunc .., ac, hc, _, _, _, hx => by simp only [compC] at hc; cases hc; exact (xbad hx).elim
  | .scope _, ac, hc, _, _, _, hx => by simp only [compC] at hc; cases hc; exact (xbad hx).elim
  | .label _, ac, hc, _, _, _, hx => by simp only [compC] at hc; cases hc; exact (xbad hx).elim
  | .goto _, ac, hc, _, _, _, hx => by simp only [compC] at hc; cases hc; exact (xbad hx).elim
  | .refuse _, ac, hc, _, _, _, hx => by simp only [compC] at hc; cases hc; exact (xbad hx).elim

/-- A LOOP: what holds at each round's head, and a number that each round lowers. -/
theorem xloop {b : ACode} {Q : AExit → Fr → Store → Prop} {tm : Fr} {st : Store} (Inv : Fr → Store → Prop) (μ : Fr → Store → Nat) (h0 : Inv tm st)
    (round : ∀ tm st, Inv tm st → xCode P E N mu b (fun e tm' st' => match e with
      | .normal => Inv tm' st' ∧ μ tm' st' < μ tm st
      | .exit i => Q (.exit i) tm' st'
      | .ret => Q .ret tm' st') tm st) : XLoop P E N mu b Q tm st := by
  intro c hc G a w h f k cs
  have key : ∀ n (tm : Fr) (st : Store), μ tm st = n → Inv tm st → ∀ G₀ w₀, Ext G w G₀ w₀ → ∀ a₀, Rel N E G₀ tm st a₀ w₀ →
      ∃ e a' w', (∃ x tm' st' G', ExRel e x ∧ Rel N E G' tm' st' a' w' ∧ Ext G w G' w' ∧ Q x tm' st') ∧ Arrives P (lone (f.at a₀ (.code c :: .inLoop c :: k)) cs w₀) f k cs e a' w' := by
    intro n
    induction n using Nat.strongRecOn with
    | _ n ih =>
      intro tm st hn hI G₀ w₀ hext a₀ hr
      obtain ⟨e, a₁, w₁, ⟨x, tm', st', G', he, hr', hext', hq⟩, harr⟩ := xCode_sound c b hc _ tm st (round tm st hI) G₀ a₀ w₀ hr f (.inLoop c :: k) cs
      rcases he.cases with ⟨rfl, rfl⟩ | ⟨i, rfl, rfl⟩ | ⟨rfl, rfl⟩
      · simp only at hq
        obtain ⟨hI₁, hlt⟩ := hq
        obtain ⟨e₂, a₂, w₂, hq₂, harr₂⟩ := ih (μ tm' st') (hn ▸ hlt) tm' st' rfl hI₁ G' w₁ (hext.trans hext') a₁ hr'
        exact ⟨e₂, a₂, w₂, hq₂, .of_steps (Steps.trans harr (.one step_inLoop)) harr₂⟩
      · exact ⟨.exit i, a₁, w₁, ⟨.exit i, tm', st', G', rfl, hr', hext.trans hext', hq⟩, .pass (x := .inLoop c) rfl (fun _ _ => .inl (by simp)) harr⟩
      · exact ⟨.ret, a₁, w₁, ⟨.ret, tm', st', G', trivial, hr', hext.trans hext', hq⟩, .pass (x := .inLoop c) rfl (fun _ _ => .inl (by simp)) harr⟩
  exact key _ tm st rfl h0 G w (Ext.refl G w) a h

/-! ### A function -/

inductive RA where
  | tmp (t : Nat)
  | cell1 (a : Nat)
  | cellN (a n : Nat)
  deriving Inhabited

def compRes (P : Program) : ResultVar → Option RA
  | .tmp t => some (.tmp t)
  | .cell a t => match aggOf P t, sizeA P t with
    | some true, some n => some (.cellN a n)
    | some false, some _ => some (.cell1 a)
    | _, _ => none

def resOne (E : Glob) (tm : Fr) (st : Store) : RA → Option AV
  | .tmp t => some (tm t)
  | .cell1 a => match cellsAt E st 1 (tm a) with
    | some cs => some (cs.headD (.tup []))
    | none => none
  | .cellN a n => match cellsAt E st n (tm a) with
    | some cs => some (.agg cs)
    | none => none

def resL (E : Glob) (tm : Fr) (st : Store) : List RA → Option (List AV)
  | [] => some []
  | r :: l => match resOne E tm st r, resL E tm st l with
    | some v, some vs => some (v :: vs)
    | _, _ => none

def pack : List AV → AV
  | [v] => v
  | vs => .tup vs

def frInit (ds : List AV) : Fr := fun t => (ds[t]?).getD (.tup [])

structure AFunc where
  n : Nat
  body : ACode
  res : List RA
  deriving Inhabited

/-- The slots that hold rows of the call's own, to be written. -/
def muL (l : List Nat) (d : Nat) : Bool := l.contains d

/-- A function of the program's, as plain code. -/
def compF (P : Program) (mu : Nat → Bool) (f : FuncId) : Option AFunc :=
  match P.funcs[f]? with
  | some fn => match fn.body with
    | some c => match compC P fn.ntmps mu c, fn.results.toList.mapM (compRes P) with
      | some ac, some rs => some ⟨fn.ntmps, ac, rs⟩
      | _, _ => none
    | none => none
  | none => none

def resSem (tmps : Array Value) : ResultVar → Sem Value
  | .tmp t => pure (tmps.getD t undef)
  | .cell p t => do loadVar t (← asAddr (tmps.getD p undef))

theorem results_eq (fn : Func) (tmps : Array Value) : results fn tmps = (do
    let vs ← fn.results.mapM (resSem tmps)
    pure (if h : vs.size = 1 then vs[0] else .tuple vs)) := by
  have key : ∀ r : ResultVar, (match r with
    | .tmp t => pure (tmps.getD t undef)
    | .cell a t => do loadVar t (← asAddr (tmps.getD a undef)) : Sem Value) = resSem tmps r := fun r => by cases r <;> rfl
  exact congrArg (fun f => (do
    let vs ← fn.results.mapM f
    pure (if h : vs.size = 1 then vs[0] else .tuple vs) : Sem Value)) (funext key)

theorem pack_rep {G : Gh} {rv : List AV} {us : List Value} (h : RepL G rv us) : Rep G (pack rv) (if h : us.toArray.size = 1 then us.toArray[0] else .tuple us.toArray) := by
  have hlen := repL_length h
  rcases rv with _ | ⟨v, _ | ⟨v', rest⟩⟩
  · have : us = [] := List.eq_nil_of_length_eq_zero hlen
    subst this
    simp only [pack, Rep, RepL]
    exact ⟨[], rfl, rfl⟩
  · simp only [RepL] at h
    obtain ⟨u, us', rfl, hr, rfl⟩ := h
    exact hr
  · have h2 : us.toArray.size ≠ 1 := by simp at hlen ⊢; omega
    rw [dif_neg h2]
    simp only [pack, Rep]
    exact ⟨us, h, rfl⟩

theorem resOne_sound {G : Gh} {tm : Fr} {st : Store} {a : Act} {w : World} (h : Rel N E G tm st a w) {r : ResultVar} {x : RA} {v : AV} (hc : compRes P r = some x) (hv : resOne E tm st x = some v) :
    ∃ u, (resSem a.tmps r).run P w = .ok u w ∧ Rep G v u := by
  cases r with
  | tmp t =>
    simp only [compRes, Option.some.injEq] at hc; subst hc
    simp only [resOne, Option.some.injEq] at hv; subst hv
    exact ⟨_, rfl, h.fr t⟩
  | cell p t =>
    simp only [compRes] at hc
    split at hc
    · rename_i n ha hn
      cases hc
      simp only [resOne] at hv
      split at hv
      · rename_i cs hcs
        cases hv
        obtain ⟨b, o, us, hu, hrl, hl, hcell⟩ := cellsAt_sound h.st (h.fr p) hcs
        have hrun := run_loadCells_mem (P := P) hcell
        rw [hl] at hrun
        refine ⟨.agg us.toArray, ?_, by simp only [Rep]; exact ⟨us, hrl, rfl⟩⟩
        simp only [resSem, hu, asAddr, pure_bind, loadVar, Sem.run_bind, run_isAgg ha, Result.andThen_ok, if_true, run_sizeOf hn, hrun, Sem.run_pure]
      · cases hv
    · rename_i ha hn
      cases hc
      simp only [resOne] at hv
      split at hv
      · rename_i cs hcs
        cases hv
        obtain ⟨b, o, us, hu, hrl, hl, hcell⟩ := cellsAt_sound h.st (h.fr p) hcs
        match us, hl with
        | [x], _ =>
          match cs, repL_length hrl with
          | [c], _ =>
            simp only [RepL] at hrl
            obtain ⟨x', us', e, hx, _⟩ := hrl
            cases e
            refine ⟨x, ?_, hx⟩
            have := hcell 0 x rfl
            simp only [Nat.add_zero] at this
            simp [resSem, hu, asAddr, loadVar, run_isAgg ha, this]
      · cases hv
    · cases hc

theorem resL_sound {G : Gh} {tm : Fr} {st : Store} {a : Act} {w : World} (h : Rel N E G tm st a w) : ∀ {rs : List ResultVar} {xs : List RA} {vs : List AV}, rs.mapM (compRes P) = some xs → resL E tm st xs = some vs →
    ∃ us, (rs.mapM (resSem a.tmps)).run P w = Result.ok us w ∧ RepL G vs us
  | [], xs, vs, hc, hv => by
    simp at hc; subst hc
    simp only [resL, Option.some.injEq] at hv; subst hv
    exact ⟨[], by simp, by simp [RepL]⟩
  | r :: rs, xs, vs, hc, hv => by
    simp only [List.mapM_cons, Option.bind_eq_bind, Option.bind_eq_some_iff, Option.pure_def, Option.some.injEq] at hc
    obtain ⟨x, hx, ys, hys, rfl⟩ := hc
    simp only [resL] at hv
    split at hv
    · rename_i v vs' h1 h2
      cases hv
      obtain ⟨u, hu, hr⟩ := resOne_sound h hx h1
      obtain ⟨us, hus, hrs⟩ := resL_sound h hys h2
      refine ⟨u :: us, ?_, by simp only [RepL]; exact ⟨u, us, rfl, hr, hrs⟩⟩
      simp only [List.mapM_cons, Sem.run_bind, hu, Result.andThen_ok, hus, Sem.run_pure]
    · cases hv

/-- A FUNCTION, CALLED. -/
theorem xcallS {f : FuncId} {fn : AFunc} {ds : List AV} {st : Store} {K : AV → Store → Prop} (hf : compF P mu f = some fn) (hl : ds.length ≤ fn.n)
    (hx : ∀ c, compC P fn.n mu c = some fn.body → AWP P E fn.n c (fun e tm st' => match e with
      | .exit _ => False
      | _ => match resL E tm st' fn.res with
        | some vs => K (pack vs) st'
        | none => False) (frInit ds) st) : XCall P E f ds st K := by
  intro G w vs hr hs
  unfold compF at hf
  split at hf
  · rename_i fn' hfn
    split at hf
    · rename_i c hb
      split at hf
      · rename_i ac rs hac hrs
        cases hf
        have hlen := repL_length hr
        have hrel : Rel fn'.ntmps E G (frInit ds) st { tmps := vs.toArray ++ Array.replicate (fn'.ntmps - vs.toArray.size) undef, defers := [] } w := by
          refine ⟨by simp; simp at hl; omega, rfl, fun t => ?_, hs⟩
          simp only [frInit]
          by_cases ht : t < ds.length
          · have h1 : ds[t]? = some ds[t] := by simp [ht]
            obtain ⟨u, hu, hru⟩ := repL_get hr t _ h1
            have h2 : (vs.toArray ++ Array.replicate (fn'.ntmps - vs.toArray.size) undef).getD t undef = u := by
              simp only [Array.getD_eq_getD_getElem?]
              rw [Array.getElem?_append_left (by simp; omega)]
              simp [hu]
            rw [h1, h2]
            exact hru
          · rw [List.getElem?_eq_none (by omega)]
            have h2 : (vs.toArray ++ Array.replicate (fn'.ntmps - vs.toArray.size) undef).getD t undef = undef := by
              simp only [Array.getD_eq_getD_getElem?]
              rw [Array.getElem?_append_right (by simp; omega)]
              rw [Array.getElem?_replicate]
              split <;> rfl
            rw [h2]
            exact rep_undef G
        refine calls_of_wp hfn hb (wp_mono (hx c hac G _ w hrel) fun e a' w' ⟨x, tm', st', G', he, hr', hext, hq⟩ => ?_)
        have fin : (match resL E tm' st' rs with | some vs => K (pack vs) st' | none => False) → ∃ v, (results fn' a'.tmps).run P w' = .ok v w' ∧ ∃ u r st'' G'', Ending.returned v = .returned u ∧ Rep G'' r u ∧ StoreRel E G'' st'' w' ∧ Ext G w G'' w' ∧ K r st'' := by
          intro hq
          split at hq
          · rename_i rv hrv
            obtain ⟨us, hus, hrl⟩ := resL_sound hr' hrs hrv
            have hres : (results fn' a'.tmps).run P w' = .ok (if h : us.toArray.size = 1 then us.toArray[0] else .tuple us.toArray) w' := by
              rw [results_eq]
              simp only [Array.mapM_eq_mapM_toList, Sem.run_bind, Sem.run_map, hus, Result.andThen_ok, Sem.run_pure]
            exact ⟨_, hres, _, pack rv, st', G', rfl, pack_rep hrl, hr'.st, hext, hq⟩
          · exact hq.elim
        rcases he.cases with ⟨rfl, rfl⟩ | ⟨i, rfl, rfl⟩ | ⟨rfl, rfl⟩
        · obtain ⟨v, h1, h2⟩ := fin hq
          exact ⟨hr'.defers, v, h1, h2⟩
        · exact hq.elim
        · obtain ⟨v, h1, h2⟩ := fin hq
          exact ⟨hr'.defers, v, h1, h2⟩
      · cases hf
    · cases hf
  · cases hf

theorem xcall {f : FuncId} {fn : AFunc} {ds : List AV} {st : Store} {K : AV → Store → Prop} (hf : compF P mu f = some fn) (hl : ds.length ≤ fn.n)
    (hx : xCode P E fn.n mu fn.body (fun e tm st' => match e with
      | .exit _ => False
      | _ => match resL E tm st' fn.res with
        | some vs => K (pack vs) st'
        | none => False) (frInit ds) st) : XCall P E f ds st K :=
  xcallS hf hl fun c hc => xCode_sound c fn.body hc _ _ st hx
end
end Go.Proofs.YtllhdbdbdblimaaDoor.AW
