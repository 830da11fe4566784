/-
  The abstract walk, run: where all is known, it is computed.
-/
import Derived.Test.YtfjdegohjnejkaaFwR
namespace Go.Proofs.Ytfjdegohjnejkaa.AW
open Go

/-! ### Values laid bare before they are kept -/

def forceN {α : Type} (m : Nat) (f : Nat → α) : α := Nat.casesOn m (f 0) fun k => f (k + 1)
theorem forceN_eq {α : Type} (m : Nat) (f : Nat → α) : forceN m f = f m := by cases m <;> rfl

def forceI {α : Type} (m : Int) (f : Int → α) : α :=
  match m with
  | .ofNat n => forceN n fun k => f (.ofNat k)
  | .negSucc n => forceN n fun k => f (.negSucc k)
theorem forceI_eq {α : Type} (m : Int) (f : Int → α) : forceI m f = f m := by cases m <;> simp only [forceI, forceN_eq]

def forceS {α : Type} : List UInt8 → (List UInt8 → α) → α
  | [], f => f []
  | b :: l, f => forceS l fun l' => f (b :: l')
theorem forceS_eq {α : Type} : ∀ (l : List UInt8) (f : List UInt8 → α), forceS l f = f l
  | [], f => rfl
  | b :: l, f => by simp only [forceS, forceS_eq l]

mutual
def AV.force {α : Type} : AV → (AV → α) → α
  | .int k n, f => forceI n fun n' => f (.int k n')
  | .bool b, f => match b with
    | true => f (.bool true)
    | false => f (.bool false)
  | .str s, f => forceS s fun s' => f (.str s')
  | .agg cs, f => AV.forceL cs fun cs' => f (.agg cs')
  | .tup cs, f => AV.forceL cs fun cs' => f (.tup cs')
  | .sl es xs tok, f => AV.forceL xs fun xs' => f (.sl es xs' tok)
  | .ptr id off, f => forceN id fun i => forceN off fun o => f (.ptr i o)
  | .dptr cs, f => f (.dptr cs)
  | .gptr g off, f => f (.gptr g off)
  | .nilptr, f => f .nilptr
  | .nils, f => f .nils
  | .row id es off len, f => forceN id fun i => forceN off fun o => forceN len fun l => f (.row i es o l)
  | .fn g caps, f => f (.fn g caps)
  | .nilfn, f => f .nilfn
  | .mp id, f => f (.mp id)
  | .nilmp, f => f .nilmp
  | .nilif, f => f .nilif
def AV.forceL {α : Type} : List AV → (List AV → α) → α
  | [], f => f []
  | v :: vs, f => AV.force v fun v' => AV.forceL vs fun vs' => f (v' :: vs')
end

mutual
theorem AV.force_eq {α : Type} : ∀ (v : AV) (f : AV → α), AV.force v f = f v
  | .int k n, f => by simp only [AV.force, forceI_eq]
  | .bool b, f => by cases b <;> simp only [AV.force]
  | .str s, f => by simp only [AV.force, forceS_eq]
  | .agg cs, f => by simp only [AV.force, AV.forceL_eq cs]
  | .tup cs, f => by simp only [AV.force, AV.forceL_eq cs]
  | .sl es xs tok, f => by simp only [AV.force, AV.forceL_eq xs]
  | .ptr id off, f => by simp only [AV.force, forceN_eq]
  | .dptr cs, f => by simp only [AV.force]
  | .gptr g off, f => by simp only [AV.force]
  | .nilptr, f => by simp only [AV.force]
  | .nils, f => by simp only [AV.force]
  | .row id es off len, f => by simp only [AV.force, forceN_eq]
  | .fn g caps, f => by simp only [AV.force]
  | .nilfn, f => by simp only [AV.force]
  | .mp id, f => by simp only [AV.force]
  | .nilmp, f => by simp only [AV.force]
  | .nilif, f => by simp only [AV.force]
theorem AV.forceL_eq {α : Type} : ∀ (vs : List AV) (f : List AV → α), AV.forceL vs f = f vs
  | [], f => by simp only [AV.forceL]
  | v :: vs, f => by simp only [AV.forceL, AV.force_eq v, AV.forceL_eq vs]
end

def forceO {α : Type} (o : AObj) (f : AObj → α) : α :=
  match o with
  | .cells cs => AV.forceL cs fun cs' => f (.cells cs')
  | .tail n => forceN n fun n' => f (.tail n')
  | .map kd g n => f (.map kd g n)
  | .dead => f .dead
  | .unborn => f .unborn
theorem forceO_eq {α : Type} (o : AObj) (f : AObj → α) : forceO o f = f o := by cases o <;> simp only [forceO, AV.forceL_eq, forceN_eq]

def forceSt {α : Type} : Store → (Store → α) → α
  | [], f => f []
  | o :: s, f => forceO o fun o' => forceSt s fun s' => f (o' :: s')
theorem forceSt_eq {α : Type} : ∀ (s : Store) (f : Store → α), forceSt s f = f s
  | [], f => rfl
  | o :: s, f => by simp only [forceSt, forceO_eq, forceSt_eq s]

/-! ### Frames as rows -/

def toFr (l : List AV) : Fr := fun i => (l[i]?).getD (.tup [])

def lset : List AV → Nat → AV → Option (List AV)
  | [], _, _ => none
  | _ :: l, 0, v => some (v :: l)
  | x :: l, n + 1, v => match lset l n v with
    | some l' => some (x :: l')
    | none => none

def lput (l : List AV) (d : Option Nat) (v : AV) : Option (List AV) :=
  match d with
  | none => some l
  | some d => lset l d v

theorem lset_spec : ∀ {l l' : List AV} {n : Nat} {v : AV}, lset l n v = some l' → ∀ i, l'[i]? = if n = i then some v else l[i]?
  | [], _, _, _, h => by simp [lset] at h
  | x :: l, l', 0, v, h => by
    simp only [lset, Option.some.injEq] at h
    subst h
    intro i
    cases i <;> simp
  | x :: l, l', n + 1, v, h => by
    simp only [lset] at h
    split at h
    · rename_i l2 h2
      cases h
      intro i
      cases i with
      | zero => simp
      | succ i => simpa using lset_spec h2 i
    · cases h

theorem lput_spec {l l' : List AV} {d : Option Nat} {v : AV} (h : lput l d v = some l') : toFr l' = (toFr l).put d v := by
  cases d with
  | none => simp only [lput, Option.some.injEq] at h; subst h; funext i; simp [Fr.put]
  | some d =>
    funext i
    have := lset_spec (show lset l d v = some l' from h) i
    simp only [toFr, this, Fr.put, Option.some.injEq]
    split <;> rfl

def padTo : Nat → List AV → List AV
  | 0, l => l
  | n + 1, [] => .tup [] :: padTo n []
  | n + 1, x :: l => x :: padTo n l

theorem padTo_get : ∀ (n : Nat) (l : List AV) (i : Nat), ((padTo n l)[i]?).getD (.tup []) = (l[i]?).getD (.tup [])
  | 0, l, i => rfl
  | n + 1, [], i => by
    cases i with
    | zero => rfl
    | succ i => simpa [padTo] using padTo_get n [] i
  | n + 1, x :: l, i => by
    cases i with
    | zero => rfl
    | succ i => simpa [padTo] using padTo_get n l i

/-! ### The run -/

abbrev Tab := FuncId → Option AFunc
abbrev CallR := FuncId → List AV → Store → Option (AV × Store)

def keep {α : Type} (fr : List AV) (d : Option Nat) (v : AV) (k : List AV → Option α) : Option α :=
  AV.force v fun v' => match lput fr d v' with
    | some fr' => k fr'
    | none => none

def runK (P : Program) (E : Glob) (call : CallR) (i : AK) (fr : List AV) (st : Store) : Option (AV × Store) :=
  match i with
  | .plain i => match evalAI E (toFr fr) st i with
    | some (v, st') => if i.still then some (v, st) else forceSt st' fun st' => some (v, st')
    | none => none
  | .call f as => call f (as.map (toFr fr).x) st
  | .callv x as => match (toFr fr).x x with
    | .fn g caps => if callable P g then call g (as.map (toFr fr).x ++ caps) st else none
    | _ => none

def runOps (P : Program) (E : Glob) (call : CallR) : List AOp → List AV → Store → Option (List AV × Store)
  | [], fr, st => some (fr, st)
  | o :: l, fr, st =>
    match o.guard with
    | none => match runK P E call o.ins fr st with
      | some (v, st') => keep fr o.dst v fun fr' => runOps P E call l fr' st'
      | none => none
    | some (d, b) => match toFr fr d with
      | .bool t => if t = b then (match runK P E call o.ins fr st with
          | some (v, st') => keep fr o.dst v fun fr' => runOps P E call l fr' st'
          | none => none)
        else keep fr o.dst (.tup []) fun fr' => runOps P E call l fr' st
      | .tup _ => keep fr o.dst (.tup []) fun fr' => runOps P E call l fr' st
      | _ => none

def runQ (P : Program) (E : Glob) (call : CallR) (st : Store) (mr r : Nat) (i : AK) (fr : List AV) : Option (AV × Eff) :=
  match i with
  | .plain i => match i with
    | .alloc z => some (.ptr (st.length + r) 0, .born (st.length + r) (.cells z))
    | .mkmap kd => some (.mp (st.length + r), .born (st.length + r) (.map kd (fun _ => none) 0))
    | .bslice es len ag zero parts mu => match partsOk (len * es) parts (toFr fr) with
      | some l => if mu = false ∧ (fillA (rep0 zero len) l).all AV.one = true then some (.sl es ((chunks es len (fillA (rep0 zero len) l)).map (ofCells ag)) (some (st.length + r)), .born (st.length + r) (.tail len)) else none
      | none => none
    | .store n a x => match (toFr fr).x a with
      | .ptr id off => match st[id]? with
        | some .dead => some (.tup [], .put id off n ((toFr fr).x x).cells)
        | _ => none
      | _ => none
    | .mapset kd m k x => match (toFr fr).x m, keyOf kd ((toFr fr).x k) with
      | .mp id, some c => if id = st.length + mr then some (.tup [], .ins id kd c ((toFr fr).x x)) else none
      | _, _ => none
    | .cvB x => match x with
      | .t n => match toFr fr n with
        | .sl es xs (some id) => some (.sl es xs (some id), .chk id xs.length)
        | _ => none
      | _ => none
    | i => if i.still then (match evalAI E (toFr fr) st i with
      | some (v, _) => some (v, .none)
      | none => none) else none
  | .call f as => if AV.dataL (as.map (toFr fr).x) then (match call f (AV.stripL (as.map (toFr fr).x)) [] with
    | some (v, _) => if v.data then some (v.strip, .none) else none
    | none => none) else none
  | .callv _ _ => none

def runLex (P : Program) (E : Glob) (call : CallR) (st : Store) (mr : Nat) : List AOp → Nat → List AV → Store → Option (List AV × Store)
  | [], _, fr, s => some (fr, s)
  | o :: l, r, fr, s =>
    match o.guard with
    | none => match runQ P E call st mr r o.ins fr with
      | some (v, e) => match e.appS s with
        | some s' => forceSt s' fun s' => keep fr o.dst v fun fr' => runLex P E call st mr l (r + bornN o) fr' s'
        | none => none
      | none => none
    | some (g, b) => match toFr fr g with
      | .bool t => if t = b then (match runQ P E call st mr r o.ins fr with
          | some (v, e) => match e.appS s with
            | some s' => forceSt s' fun s' => keep fr o.dst v fun fr' => runLex P E call st mr l (r + bornN o) fr' s'
            | none => none
          | none => none)
        else keep fr o.dst (.tup []) fun fr' => runLex P E call st mr l (r + bornN o) fr' s
      | .tup _ => keep fr o.dst (.tup []) fun fr' => runLex P E call st mr l (r + bornN o) fr' s
      | _ => none

def runLoop (body : List AV → Store → Option (AExit × List AV × Store)) : Nat → List AV → Store → Option (AExit × List AV × Store)
  | 0, _, _ => none
  | n + 1, fr, st => match body fr st with
    | some (.normal, fr', st') => runLoop body n fr' st'
    | r => r

def runC (P : Program) (E : Glob) (call : CallR) (n : Nat) : ACode → List AV → Store → Option (AExit × List AV × Store)
  | .skip, fr, st => some (.normal, fr, st)
  | .seq a b, fr, st => match runC P E call n a fr st with
    | some (.normal, fr', st') => runC P E call n b fr' st'
    | r => r
  | .cond x a b, fr, st => match (toFr fr).x x with
    | .bool t => if t then runC P E call n a fr st else runC P E call n b fr st
    | _ => none
  | .block id b, fr, st => match runC P E call n b fr st with
    | some (.exit i, fr', st') => if i = id then some (.normal, fr', st') else some (.exit i, fr', st')
    | r => r
  | .loop b, fr, st => runLoop (runC P E call n b) n fr st
  | .exit i, fr, st => some (.exit i, fr, st)
  | .ret, fr, st => some (.ret, fr, st)
  | .ops l, fr, st => match runOps P E call l fr st with
    | some (fr', st') => some (.normal, fr', st')
    | none => none
  | .draw sas mr nb q suf, fr, st => match runLex P E call (maskS (sas.map (toFr fr).x) st) mr q 0 fr (st ++ List.replicate nb .unborn) with
    | some (fr', s) => match runOps P E call suf fr' s with
      | some (fr'', st') => some (.normal, fr'', st')
      | none => none
    | none => none

def runF (P : Program) (E : Glob) (T : Tab) : Nat → CallR
  | 0, _, _, _ => none
  | k + 1, f, ds, st => match T f with
    | some fn => if ds.length ≤ fn.n then (match runC P E (runF P E T k) k fn.body (padTo fn.n ds) st with
      | some (.exit _, _, _) => none
      | some (_, fr, st') => match resL E (toFr fr) st' fn.res with
        | some vs => some (pack vs, st')
        | none => none
      | none => none) else none
    | none => none

/-! ### It is right -/

def CallOk (P : Program) (E : Glob) (call : CallR) : Prop := ∀ f ds st v st', call f ds st = some (v, st') → ∀ K : AV → Store → Prop, K v st' → XCall P E f ds st K

section
variable {P : Program} {E : Glob} {N : Nat} {mu : Nat → Bool} {call : CallR}

theorem keep_some {α : Type} {fr : List AV} {d : Option Nat} {v : AV} {k : List AV → Option α} {r : α} (h : keep fr d v k = some r) : ∃ fr', lput fr d v = some fr' ∧ k fr' = some r := by
  unfold keep at h
  rw [AV.force_eq] at h
  split at h
  · rename_i fr' hf; exact ⟨fr', hf, h⟩
  · cases h

theorem runK_sound (hc : CallOk P E call) {i : AK} {fr : List AV} {st st' : Store} {v : AV} (h : runK P E call i fr st = some (v, st')) {K : AV → Store → Prop} (hk : K v st') : xAI P E i (toFr fr) st K := by
  unfold runK at h
  split at h
  · rename_i i
    simp only [xAI]
    split at h
    · rename_i v' s' he
      split at h
      · rename_i hs
        cases h
        have := (eval_more (st2 := st) (fun _ _ h _ => h) hs he).1
        subst this
        rw [he]
        exact hk
      · rw [forceSt_eq] at h
        cases h
        rw [he]
        exact hk
    · cases h
  · exact hc _ _ _ _ _ h K hk
  · simp only [xAI]
    split at h
    · rename_i g caps hx
      split at h
      · rename_i hcb
        simp only [hx]
        exact ⟨hcb, hc _ _ _ _ _ h K hk⟩
      · cases h
    · cases h

theorem runOps_sound (hc : CallOk P E call) {K : Fr → Store → Prop} : ∀ {l : List AOp} {fr fr' : List AV} {st st' : Store}, runOps P E call l fr st = some (fr', st') → K (toFr fr') st' → xOps P E l K (toFr fr) st
  | [], fr, fr', st, st', h, hk => by
    simp only [runOps, Option.some.injEq, Prod.mk.injEq] at h
    obtain ⟨rfl, rfl⟩ := h
    simpa only [xOps] using hk
  | o :: l, fr, fr', st, st', h, hk => by
    have step : ∀ {v : AV} {s : Store}, keep fr o.dst v (fun fr' => runOps P E call l fr' s) = some (fr', st') → xOps P E l K ((toFr fr).put o.dst v) s := by
      intro v s hh
      obtain ⟨fr2, h1, h2⟩ := keep_some hh
      rw [← lput_spec h1]
      exact runOps_sound hc h2 hk
    simp only [runOps] at h
    simp only [xOps]
    split at h
    · rename_i hg
      simp only [hg]
      split at h
      · rename_i v s hr
        exact runK_sound hc hr (step h)
      · cases h
    · rename_i d b hg
      simp only [hg]
      split at h
      · rename_i t ht
        simp only [ht]
        split at h
        · rename_i hb
          rw [if_pos hb]
          split at h
          · rename_i v s hr
            exact runK_sound hc hr (step h)
          · cases h
        · rename_i hb
          rw [if_neg hb]
          exact step h
      · rename_i vs ht
        simp only [ht]
        exact step h
      · cases h

theorem runQ_sound (hc : CallOk P E call) {st : Store} {mr r : Nat} {i : AK} {fr : List AV} {v : AV} {e : Eff} (h : runQ P E call st mr r i fr = some (v, e)) : qv P E st mr r i (toFr fr) v e := by
  cases i with
  | plain i =>
    cases i
    case alloc z => simp only [runQ, Option.some.injEq, Prod.mk.injEq] at h; exact ⟨h.1.symm, h.2.symm⟩
    case mkmap kd => simp only [runQ, Option.some.injEq, Prod.mk.injEq] at h; exact ⟨h.1.symm, h.2.symm⟩
    case bslice es len ag zero parts mu =>
      simp only [runQ] at h
      split at h
      · rename_i l hl
        split at h
        · rename_i hcond
          cases h
          exact ⟨l, hl, hcond.1, hcond.2, rfl, rfl⟩
        · cases h
      · cases h
    case store n a x =>
      simp only [runQ] at h
      split at h
      · rename_i id off ha
        split at h
        · rename_i hd
          cases h
          exact ⟨id, off, ha, hd, rfl, rfl⟩
        · cases h
      · cases h
    case mapset kd m k x =>
      simp only [runQ] at h
      split at h
      · rename_i id c hm hk
        split at h
        · rename_i hid
          cases h
          subst hid
          exact ⟨c, hm, hk, rfl, rfl⟩
        · cases h
      · cases h
    case cvB x =>
      simp only [runQ] at h
      split at h
      · rename_i n
        split at h
        · rename_i es xs id hx
          cases h
          exact ⟨n, es, xs, id, rfl, hx, rfl, rfl⟩
        · cases h
      · cases h
    all_goals
      simp only [runQ] at h
      split at h
      · rename_i hs
        split at h
        · rename_i v' s' he
          cases h
          have := (eval_more (st2 := st) (fun _ _ h _ => h) hs he).1
          subst this
          exact ⟨hs, he, rfl⟩
        · cases h
      · cases h
  | call f as =>
    simp only [runQ] at h
    split at h
    · rename_i hd
      split at h
      · rename_i v' s' hr
        split at h
        · rename_i hv
          cases h
          exact ⟨hd, hc _ _ _ _ _ hr _ ⟨hv, rfl⟩, rfl⟩
        · cases h
      · cases h
    · cases h
  | callv f as => simp only [runQ] at h; cases h

theorem runLex_sound (hc : CallOk P E call) {st : Store} {mr : Nat} {K : Fr → Store → Prop} : ∀ {l : List AOp} {r : Nat} {fr fr' : List AV} {s s' : Store}, runLex P E call st mr l r fr s = some (fr', s') → K (toFr fr') s' → lexQ P E st mr l r K (toFr fr) s
  | [], r, fr, fr', s, s', h, hk => by
    simp only [runLex, Option.some.injEq, Prod.mk.injEq] at h
    obtain ⟨rfl, rfl⟩ := h
    simpa only [lexQ] using hk
  | o :: l, r, fr, fr', s, s', h, hk => by
    have step : ∀ {v : AV} {s2 : Store}, keep fr o.dst v (fun fr' => runLex P E call st mr l (r + bornN o) fr' s2) = some (fr', s') → lexQ P E st mr l (r + bornN o) K ((toFr fr).put o.dst v) s2 := by
      intro v s2 hh
      obtain ⟨fr2, h1, h2⟩ := keep_some hh
      rw [← lput_spec h1]
      exact runLex_sound hc h2 hk
    simp only [runLex] at h
    simp only [lexQ]
    split at h
    · rename_i hg
      split at h
      · rename_i v e hr
        split at h
        · rename_i s2 ha
          rw [forceSt_eq] at h
          refine ⟨v, e, s2, ?_, ha, step h⟩
          simp only [yv, hg]
          exact runQ_sound hc hr
        · cases h
      · cases h
    · rename_i g b hg
      split at h
      · rename_i t ht
        split at h
        · rename_i hb
          split at h
          · rename_i v e hr
            split at h
            · rename_i s2 ha
              rw [forceSt_eq] at h
              refine ⟨v, e, s2, ?_, ha, step h⟩
              simp only [yv, hg, ht]
              rw [if_pos hb]
              exact runQ_sound hc hr
            · cases h
          · cases h
        · rename_i hb
          refine ⟨.tup [], .none, s, ?_, rfl, step h⟩
          unfold yv
          simp only [hg, ht]
          rw [if_neg hb]
          first | exact ⟨rfl, rfl⟩ | exact ⟨trivial, rfl⟩ | trivial | simp
      · rename_i vs ht
        refine ⟨.tup [], .none, s, ?_, rfl, step h⟩
        unfold yv
        simp only [hg, ht]
        first | exact ⟨rfl, rfl⟩ | exact ⟨trivial, rfl⟩ | trivial | simp
      · cases h

theorem runC_sound (hc : CallOk P E call) {n : Nat} : ∀ (c : ACode) {Q : AExit → Fr → Store → Prop} {x : AExit} {fr fr' : List AV} {st st' : Store}, runC P E call n c fr st = some (x, fr', st') → Q x (toFr fr') st' → xCode P E N mu c Q (toFr fr) st
  | .skip, Q, x, fr, fr', st, st', h, hq => by
    simp only [runC, Option.some.injEq, Prod.mk.injEq] at h
    obtain ⟨rfl, rfl, rfl⟩ := h
    rw [xCode_skip]; exact hq
  | .exit i, Q, x, fr, fr', st, st', h, hq => by
    simp only [runC, Option.some.injEq, Prod.mk.injEq] at h
    obtain ⟨rfl, rfl, rfl⟩ := h
    rw [xCode_exit]; exact hq
  | .ret, Q, x, fr, fr', st, st', h, hq => by
    simp only [runC, Option.some.injEq, Prod.mk.injEq] at h
    obtain ⟨rfl, rfl, rfl⟩ := h
    rw [xCode_ret]; exact hq
  | .seq a b, Q, x, fr, fr', st, st', h, hq => by
    simp only [runC] at h
    rw [xCode_seq]
    split at h
    · rename_i fr2 st2 h1
      exact runC_sound hc a h1 (by rw [thenQ_normal]; exact runC_sound hc b h hq)
    · rename_i hn
      refine runC_sound hc a h ?_
      cases x with
      | normal => exact absurd h (hn _ _)
      | exit i => rw [thenQ_exit]; exact hq
      | ret => rw [thenQ_ret]; exact hq
  | .cond c a b, Q, x, fr, fr', st, st', h, hq => by
    simp only [runC] at h
    rw [xCode_cond]
    split at h
    · rename_i t ht
      rw [ht]
      cases t with
      | true => rw [XB_true]; exact runC_sound hc a (by simpa using h) hq
      | false => rw [XB_false]; exact runC_sound hc b (by simpa using h) hq
    · cases h
  | .block id b, Q, x, fr, fr', st, st', h, hq => by
    simp only [runC] at h
    rw [xCode_block]
    split at h
    · rename_i i fr2 st2 h1
      refine runC_sound hc b h1 ?_
      split at h
      · rename_i hi
        cases h
        subst hi
        rw [blockQ_here]; exact hq
      · rename_i hi
        cases h
        rw [blockQ_past _ _ (by simpa using hi)]; exact hq
    · rename_i hn
      refine runC_sound hc b h ?_
      cases x with
      | normal => rw [blockQ_normal]; exact hq
      | exit i => exact absurd h (hn _ _ _)
      | ret => rw [blockQ_ret]; exact hq
  | .loop b, Q, x, fr, fr', st, st', h, hq => by
    simp only [runC] at h
    rw [xCode_loop]
    have key : ∀ (m : Nat) (fr : List AV) (st : Store), runLoop (runC P E call n b) m fr st = some (x, fr', st') → XLoop P E N mu b Q (toFr fr) st := by
      intro m
      induction m with
      | zero => intro fr st h; cases h
      | succ m ih =>
        intro fr st h
        simp only [runLoop] at h
        intro c hcc G a w hr
        refine loop_once hcc ?_ hr
        split at h
        · rename_i fr2 st2 h1
          exact runC_sound hc b h1 (by rw [thenQ_normal]; exact ih fr2 st2 h)
        · rename_i hn
          refine runC_sound hc b h ?_
          cases x with
          | normal => exact absurd h (hn _ _)
          | exit i => rw [thenQ_exit]; exact hq
          | ret => rw [thenQ_ret]; exact hq
    exact key n fr st h
  | .ops l, Q, x, fr, fr', st, st', h, hq => by
    simp only [runC] at h
    rw [xCode_ops]
    split at h
    · rename_i fr2 st2 h1
      cases h
      exact runOps_sound hc h1 hq
    · cases h
  | .draw sas mr nb q suf, Q, x, fr, fr', st, st', h, hq => by
    simp only [runC] at h
    rw [xCode_draw]
    split at h
    · rename_i fr2 s h1
      split at h
      · rename_i fr3 st3 h2
        cases h
        exact runLex_sound hc h1 (by rw [sufK_app]; exact runOps_sound hc h2 hq)
      · cases h
    · cases h

theorem toFr_pad (n : Nat) (ds : List AV) : toFr (padTo n ds) = frInit ds := by
  funext i
  simp only [toFr, frInit, padTo_get]

theorem runF_sound {T : Tab} (hT : ∀ f fn, T f = some fn → ∃ mu, compF P mu f = some fn) : ∀ k, CallOk P E (runF P E T k)
  | 0 => fun f ds st v st' h => by simp only [runF] at h; cases h
  | k + 1 => fun f ds st v st' h K hk => by
    simp only [runF] at h
    split at h
    · rename_i fn hfn
      obtain ⟨mu, hmu⟩ := hT f fn hfn
      split at h
      · rename_i hl
        have fin : ∀ {fr : List AV} {st2 : Store}, (match resL E (toFr fr) st2 fn.res with
            | some vs => some (pack vs, st2)
            | none => none) = some (v, st') → XR (resL E (toFr fr) st2 fn.res) K st2 := by
          intro fr st2 h
          split at h
          · rename_i vs hvs
            cases h
            rw [hvs, XR_some]; exact hk
          · cases h
        refine call_rule hmu hl ?_
        rw [← toFr_pad fn.n ds]
        split at h
        · cases h
        · rename_i x fr st2 hne hr0
          have hr := hr0
          refine runC_sound (runF_sound hT k) fn.body hr ?_
          cases x with
          | normal => rw [endQ_normal]; exact fin h
          | exit i => exact absurd rfl (hne i)
          | ret => rw [endQ_ret]; exact fin h
        · cases h
      · cases h
    · cases h

/-- A call with plain data, run. -/
theorem dfun_run {T : Tab} (hT : ∀ f fn, T f = some fn → ∃ mu, compF P mu f = some fn) {k : Nat} {f : FuncId} {ds : List AV} {r : AV} {st' : Store} (h : runF P E T k f ds [] = some (r, st')) (hd : r.data = true) : DFun P E f ds r.strip :=
  runF_sound hT k f ds [] r st' h _ ⟨hd, rfl⟩

def saysB (r : Option (AV × Store)) (b : Bool) : Bool :=
  match r with
  | some (.bool c, _) => c == b
  | _ => false

theorem dfun_says {T : Tab} (hT : ∀ f fn, T f = some fn → ∃ mu, compF P mu f = some fn) {k : Nat} {f : FuncId} {ds : List AV} {b : Bool} (h : saysB (runF P E T k f ds []) b = true) : DFun P E f ds (.bool b) := by
  unfold saysB at h
  split at h
  · rename_i c s hr
    have : c = b := by simpa using h
    subst this
    exact dfun_run hT hr rfl
  · cases h

def tabOf : List (Nat × AFunc) → Tab
  | [], _ => none
  | (k, fn) :: l, f => if f = k then some fn else tabOf l f

theorem tabOf_nil : ∀ f fn, tabOf [] f = some fn → ∃ mu, compF P mu f = some fn := fun f fn h => by cases h
theorem tabOf_cons {mu : Nat → Bool} {k : Nat} {fn : AFunc} {l : List (Nat × AFunc)} (h1 : compF P mu k = some fn) (h : ∀ f fn, tabOf l f = some fn → ∃ mu, compF P mu f = some fn) : ∀ f fn', tabOf ((k, fn) :: l) f = some fn' → ∃ mu, compF P mu f = some fn' := by
  intro f fn' hf
  simp only [tabOf] at hf
  split at hf
  · rename_i e; cases hf; subst e; exact ⟨mu, h1⟩
  · exact h f fn' hf
end
end Go.Proofs.Ytfjdegohjnejkaa.AW
