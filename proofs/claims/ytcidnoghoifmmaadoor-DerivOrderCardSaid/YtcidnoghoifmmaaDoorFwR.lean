/-
  The abstract walk: the rules by which it is stepped. Each state of the walk is one term; what is still to come stands in it as code, and is not looked into.
-/
import Derived.Test.YtcidnoghoifmmaaDoorFwU
namespace Go.Proofs.YtcidnoghoifmmaaDoor.AW
open Go

section
variable {P : Program} {E : Glob} {N : Nat} {mu : Nat → Bool}

def XO (P : Program) (E : Glob) (ev : Option (AV × Store)) (d : Option Nat) (l : List AOp) (K : Fr → Store → Prop) (tm : Fr) : Prop :=
  match ev with
  | some (v, st) => xOps P E l K (tm.put d v) st
  | none => False

def XC (P : Program) (E : Glob) (f : FuncId) (ds : List AV) (d : Option Nat) (l : List AOp) (K : Fr → Store → Prop) (tm : Fr) (st : Store) : Prop :=
  XCall P E f ds st fun v st' => xOps P E l K (tm.put d v) st'

def XCV (P : Program) (E : Glob) (v : AV) (ds : List AV) (d : Option Nat) (l : List AOp) (K : Fr → Store → Prop) (tm : Fr) (st : Store) : Prop :=
  match v with
  | .fn g caps => callable P g = true ∧ XC P E g (ds ++ caps) d l K tm st
  | .yld id => XYield P E id ds st fun v st' => xOps P E l K (tm.put d v) st'
  | _ => False

def XG (P : Program) (E : Glob) (v : AV) (b : Bool) (d : Option Nat) (i : AK) (l : List AOp) (K : Fr → Store → Prop) (tm : Fr) (st : Store) : Prop :=
  match v with
  | .bool t => if t = b then xOps P E (⟨d, .none, i⟩ :: l) K tm st else xOps P E l K (tm.put d (.tup [])) st
  | .tup _ => xOps P E l K (tm.put d (.tup [])) st
  | _ => False

theorem XO_some (v : AV) (st : Store) (d : Option Nat) (l : List AOp) (K : Fr → Store → Prop) (tm : Fr) : XO P E (some (v, st)) d l K tm = xOps P E l K (tm.put d v) st := by simp only [XO]
theorem xOps_nil (K : Fr → Store → Prop) (tm : Fr) (st : Store) : xOps P E [] K tm st = K tm st := by simp only [xOps]
theorem xOps_plain (d : Option Nat) (i : AI) (l : List AOp) (K : Fr → Store → Prop) (tm : Fr) (st : Store) :
    xOps P E (⟨d, .none, .plain i⟩ :: l) K tm st = XO P E (evalAI E tm st i) d l K tm := by
  simp only [xOps, xAI, XO]
  cases evalAI E tm st i <;> rfl
theorem xOps_call (d : Option Nat) (f : FuncId) (as : List AX) (l : List AOp) (K : Fr → Store → Prop) (tm : Fr) (st : Store) :
    xOps P E (⟨d, .none, .call f as⟩ :: l) K tm st = XC P E f (as.map tm.x) d l K tm st := by
  simp only [xOps, xAI, XC]
theorem xOps_callv (d : Option Nat) (f : AX) (as : List AX) (l : List AOp) (K : Fr → Store → Prop) (tm : Fr) (st : Store) :
    xOps P E (⟨d, .none, .callv f as⟩ :: l) K tm st = XCV P E (tm.x f) (as.map tm.x) d l K tm st := by
  simp only [xOps, xAI, XCV, XC]
  cases tm.x f <;> rfl
theorem XCV_fn (g : FuncId) (caps ds : List AV) (d : Option Nat) (l : List AOp) (K : Fr → Store → Prop) (tm : Fr) (st : Store) : XCV P E (.fn g caps) ds d l K tm st = (callable P g = true ∧ XC P E g (ds ++ caps) d l K tm st) := by simp only [XCV]
theorem XCV_yld (id : Nat) (ds : List AV) (d : Option Nat) (l : List AOp) (K : Fr → Store → Prop) (tm : Fr) (st : Store) : XCV P E (.yld id) ds d l K tm st = XYield P E id ds st fun v st' => xOps P E l K (tm.put d v) st' := by simp only [XCV]
theorem xOps_guard (d : Option Nat) (g : Nat) (b : Bool) (i : AK) (l : List AOp) (K : Fr → Store → Prop) (tm : Fr) (st : Store) :
    xOps P E (⟨d, .some (g, b), i⟩ :: l) K tm st = XG P E (tm g) b d i l K tm st := by
  simp only [xOps, XG]
  cases tm g <;> rfl
theorem XG_run (b : Bool) (d : Option Nat) (i : AK) (l : List AOp) (K : Fr → Store → Prop) (tm : Fr) (st : Store) : XG P E (.bool b) b d i l K tm st = xOps P E (⟨d, .none, i⟩ :: l) K tm st := by simp only [XG, if_true]
theorem XG_tup (vs : List AV) (b : Bool) (d : Option Nat) (i : AK) (l : List AOp) (K : Fr → Store → Prop) (tm : Fr) (st : Store) : XG P E (.tup vs) b d i l K tm st = xOps P E l K (tm.put d (.tup [])) st := by simp only [XG]
theorem XG_tf (d : Option Nat) (i : AK) (l : List AOp) (K : Fr → Store → Prop) (tm : Fr) (st : Store) : XG P E (.bool true) false d i l K tm st = xOps P E l K (tm.put d (.tup [])) st := by simp [XG]
theorem XG_ft (d : Option Nat) (i : AK) (l : List AOp) (K : Fr → Store → Prop) (tm : Fr) (st : Store) : XG P E (.bool false) true d i l K tm st = xOps P E l K (tm.put d (.tup [])) st := by simp [XG]

def thenQ (K : Fr → Store → Prop) (Q : AExit → Fr → Store → Prop) : AExit → Fr → Store → Prop
  | .normal, tm, st => K tm st
  | .exit i, tm, st => Q (.exit i) tm st
  | .ret, tm, st => Q .ret tm st
def blockQ (id : Nat) (Q : AExit → Fr → Store → Prop) : AExit → Fr → Store → Prop
  | .normal, tm, st => Q .normal tm st
  | .exit i, tm, st => if i = id then Q .normal tm st else Q (.exit i) tm st
  | .ret, tm, st => Q .ret tm st
theorem thenQ_normal (K : Fr → Store → Prop) (Q : AExit → Fr → Store → Prop) (tm : Fr) (st : Store) : thenQ K Q .normal tm st = K tm st := by simp only [thenQ]
theorem thenQ_exit (K : Fr → Store → Prop) (Q : AExit → Fr → Store → Prop) (i : Nat) (tm : Fr) (st : Store) : thenQ K Q (.exit i) tm st = Q (.exit i) tm st := by simp only [thenQ]
theorem thenQ_ret (K : Fr → Store → Prop) (Q : AExit → Fr → Store → Prop) (tm : Fr) (st : Store) : thenQ K Q .ret tm st = Q .ret tm st := by simp only [thenQ]
theorem blockQ_normal (id : Nat) (Q : AExit → Fr → Store → Prop) (tm : Fr) (st : Store) : blockQ id Q .normal tm st = Q .normal tm st := by simp only [blockQ]
theorem blockQ_ret (id : Nat) (Q : AExit → Fr → Store → Prop) (tm : Fr) (st : Store) : blockQ id Q .ret tm st = Q .ret tm st := by simp only [blockQ]

theorem xCode_skip (Q : AExit → Fr → Store → Prop) (tm : Fr) (st : Store) : xCode P E N mu .skip Q tm st = Q .normal tm st := by simp only [xCode]
theorem xCode_ret (Q : AExit → Fr → Store → Prop) (tm : Fr) (st : Store) : xCode P E N mu .ret Q tm st = Q .ret tm st := by simp only [xCode]
theorem xCode_exit (i : Nat) (Q : AExit → Fr → Store → Prop) (tm : Fr) (st : Store) : xCode P E N mu (.exit i) Q tm st = Q (.exit i) tm st := by simp only [xCode]
theorem xCode_ops (l : List AOp) (Q : AExit → Fr → Store → Prop) (tm : Fr) (st : Store) : xCode P E N mu (.ops l) Q tm st = xOps P E l (Q .normal) tm st := by simp only [xCode]
theorem xCode_loop (b : ACode) (Q : AExit → Fr → Store → Prop) (tm : Fr) (st : Store) : xCode P E N mu (.loop b) Q tm st = XLoop P E N mu b Q tm st := by simp only [xCode]
theorem put_none (tm : Fr) (v : AV) : tm.put .none v = tm := by funext i; simp [Fr.put]
def XR (o : Option (List AV)) (K : AV → Store → Prop) (st : Store) : Prop :=
  match o with
  | some vs => K (pack vs) st
  | none => False
def endQ (E : Glob) (res : List RA) (K : AV → Store → Prop) : AExit → Fr → Store → Prop
  | .exit _, _, _ => False
  | .normal, tm, st => XR (resL E tm st res) K st
  | .ret, tm, st => XR (resL E tm st res) K st
theorem XR_some (vs : List AV) (K : AV → Store → Prop) (st : Store) : XR (some vs) K st = K (pack vs) st := by simp only [XR]
theorem endQ_ret (res : List RA) (K : AV → Store → Prop) (tm : Fr) (st : Store) : endQ E res K .ret tm st = XR (resL E tm st res) K st := by simp only [endQ]
theorem endQ_normal (res : List RA) (K : AV → Store → Prop) (tm : Fr) (st : Store) : endQ E res K .normal tm st = XR (resL E tm st res) K st := by simp only [endQ]

def isD (K : AV → Prop) (r : AV) (_ : Store) : Prop := r.data = true ∧ K r.strip
theorem xc_fun {f : FuncId} {ds ds' : List AV} {r : AV} {d : Option Nat} {l : List AOp} {K : Fr → Store → Prop} {tm : Fr} {st : Store} (h : DFun P E f ds' r) (hd : AV.dataL ds = true) (he : AV.stripL ds = ds')
    (hk : xOps P E l K (tm.put d r) st) : XC P E f ds d l K tm st :=
  xcall_fun (K := fun v st' => xOps P E l K (tm.put d v) st') h hd he hk


def sufK (P : Program) (E : Glob) (l : List AOp) (K : Fr → Store → Prop) (tm : Fr) (st : Store) : Prop := xOps P E l K tm st
theorem sufK_app (l : List AOp) (K : Fr → Store → Prop) (tm : Fr) (st : Store) : sufK P E l K tm st = xOps P E l K tm st := rfl
theorem xCode_draw (sas : List AX) (mr nb : Nat) (q suf : List AOp) (Q : AExit → Fr → Store → Prop) (tm : Fr) (st : Store) : xCode P E N mu (.draw sas mr nb q suf) Q tm st = lexQ P E (maskS (sas.map tm.x) st) mr q 0 (sufK P E suf (Q .normal)) tm (st ++ List.replicate nb .unborn) := by simp only [xCode]; rfl

def XD (P : Program) (E : Glob) (ev : Option (AV × Store)) (st : Store) (mr : Nat) (d : Option Nat) (l : List AOp) (r : Nat) (K : Fr → Store → Prop) (tm : Fr) (s : Store) : Prop :=
  match ev with
  | some (v, st') => st' = st ∧ lexQ P E st mr l r K (tm.put d v) s
  | none => False
theorem XD_some (v : AV) (st : Store) (mr : Nat) (d : Option Nat) (l : List AOp) (r : Nat) (K : Fr → Store → Prop) (tm : Fr) (s : Store) : XD P E (some (v, st)) st mr d l r K tm s = lexQ P E st mr l r K (tm.put d v) s := by simp [XD]
def XDE (P : Program) (E : Glob) (s' : Option Store) (st : Store) (mr : Nat) (l : List AOp) (r : Nat) (K : Fr → Store → Prop) (tm : Fr) : Prop :=
  match s' with
  | some s => lexQ P E st mr l r K tm s
  | none => False
theorem XDE_some (s st : Store) (mr : Nat) (l : List AOp) (r : Nat) (K : Fr → Store → Prop) (tm : Fr) : XDE P E (some s) st mr l r K tm = lexQ P E st mr l r K tm s := rfl
theorem XDE_ex (e : Eff) (s st : Store) (mr : Nat) (l : List AOp) (r : Nat) (K : Fr → Store → Prop) (tm : Fr) : (∃ s', e.app s = some s' ∧ lexQ P E st mr l r K tm s') = XDE P E (e.app s) st mr l r K tm := by
  simp only [XDE]
  cases e.app s <;> simp

def XDC (P : Program) (E : Glob) (f : FuncId) (ds : List AV) (st : Store) (mr : Nat) (d : Option Nat) (l : List AOp) (r : Nat) (K : Fr → Store → Prop) (tm : Fr) (s : Store) : Prop :=
  ∃ v, (AV.dataL ds = true ∧ DFun P E f (AV.stripL ds) v) ∧ lexQ P E st mr l r K (tm.put d v) s

def XDG (P : Program) (E : Glob) (v : AV) (b : Bool) (st : Store) (mr : Nat) (d : Option Nat) (i : AK) (l : List AOp) (r : Nat) (K : Fr → Store → Prop) (tm : Fr) (s : Store) : Prop :=
  match v with
  | .bool t => if t = b then lexQ P E st mr (⟨d, .none, i⟩ :: l) r K tm s else lexQ P E st mr l (r + bornN ⟨d, .none, i⟩) K (tm.put d (.tup [])) s
  | .tup _ => lexQ P E st mr l (r + bornN ⟨d, .none, i⟩) K (tm.put d (.tup [])) s
  | _ => False

theorem lexQ_nil (st : Store) (mr r : Nat) (K : Fr → Store → Prop) (tm : Fr) (s : Store) : lexQ P E st mr [] r K tm s = K tm s := by simp only [lexQ]
theorem lexQ_alloc (st : Store) (mr : Nat) (d : Option Nat) (z : List AV) (l : List AOp) (r : Nat) (K : Fr → Store → Prop) (tm : Fr) (s : Store) : lexQ P E st mr (⟨d, .none, .plain (.alloc z)⟩ :: l) r K tm s = XDE P E ((Eff.born (st.length + r) (.cells z)).app s) st mr l (r + 1) K (tm.put d (.ptr (st.length + r) 0)) := by
  rw [← XDE_ex]
  simp only [lexQ, yv, qv, bornN, AK.born, if_true, eq_iff_iff]
  constructor
  · rintro ⟨v, e, s', ⟨rfl, rfl⟩, h⟩; exact ⟨s', h⟩
  · rintro ⟨s', h⟩; exact ⟨_, _, s', ⟨rfl, rfl⟩, h⟩
def XDB (P : Program) (E : Glob) (parts : Option (List (Nat × List AV))) (es len : Nat) (ag : Bool) (zero : List AV) (st : Store) (mr : Nat) (d : Option Nat) (l : List AOp) (r : Nat) (K : Fr → Store → Prop) (tm : Fr) (s : Store) : Prop :=
  match parts with
  | some ps => (fillA (rep0 zero len) ps).all AV.one = true ∧ XDE P E ((Eff.born (st.length + r) (.tail len)).app s) st mr l (r + 1) K (tm.put d (.sl es ((chunks es len (fillA (rep0 zero len) ps)).map (ofCells ag)) (.some (st.length + r))))
  | none => False
theorem lexQ_bslice (st : Store) (mr : Nat) (d : Option Nat) (es len : Nat) (ag : Bool) (zero : List AV) (parts : List (Nat × Nat × AX)) (l : List AOp) (r : Nat) (K : Fr → Store → Prop) (tm : Fr) (s : Store) : lexQ P E st mr (⟨d, .none, .plain (.bslice es len ag zero parts false)⟩ :: l) r K tm s = XDB P E (partsOk (len * es) parts tm) es len ag zero st mr d l r K tm s := by
  simp only [lexQ, yv, qv, bornN, AK.born, if_true, XDB]
  cases partsOk (len * es) parts tm with
  | none => simp
  | some ps =>
    simp only []
    rw [← XDE_ex]
    simp only [Option.some.injEq, true_and, eq_iff_iff]
    constructor
    · rintro ⟨v, e, s', ⟨_, rfl, h1, rfl, rfl⟩, h⟩; exact ⟨h1, s', h⟩
    · rintro ⟨h1, s', h⟩; exact ⟨_, _, s', ⟨_, rfl, h1, rfl, rfl⟩, h⟩
theorem XDB_some (ps : List (Nat × List AV)) (es len : Nat) (ag : Bool) (zero : List AV) (st : Store) (mr : Nat) (d : Option Nat) (l : List AOp) (r : Nat) (K : Fr → Store → Prop) (tm : Fr) (s : Store) : XDB P E (some ps) es len ag zero st mr d l r K tm s = ((fillA (rep0 zero len) ps).all AV.one = true ∧ XDE P E ((Eff.born (st.length + r) (.tail len)).app s) st mr l (r + 1) K (tm.put d (.sl es ((chunks es len (fillA (rep0 zero len) ps)).map (ofCells ag)) (.some (st.length + r))))) := rfl
def XDS (P : Program) (E : Glob) (a : AV) (n : Nat) (cs : List AV) (st : Store) (mr : Nat) (d : Option Nat) (l : List AOp) (r : Nat) (K : Fr → Store → Prop) (tm : Fr) (s : Store) : Prop :=
  match a with
  | .ptr id off => st[id]? = some .hid ∧ XDE P E ((Eff.put id off n cs).app s) st mr l r K (tm.put d (.tup []))
  | _ => False
theorem XDS_ptr (id off n : Nat) (cs : List AV) (st : Store) (mr : Nat) (d : Option Nat) (l : List AOp) (r : Nat) (K : Fr → Store → Prop) (tm : Fr) (s : Store) : XDS P E (.ptr id off) n cs st mr d l r K tm s = (st[id]? = some .hid ∧ XDE P E ((Eff.put id off n cs).app s) st mr l r K (tm.put d (.tup []))) := rfl
theorem lexQ_store (st : Store) (mr : Nat) (d : Option Nat) (n : Nat) (a x : AX) (l : List AOp) (r : Nat) (K : Fr → Store → Prop) (tm : Fr) (s : Store) : lexQ P E st mr (⟨d, .none, .plain (.store n a x)⟩ :: l) r K tm s = XDS P E (tm.x a) n (tm.x x).cells st mr d l r K tm s := by
  simp only [lexQ, yv, qv, bornN, AK.born, Bool.false_eq_true, if_false, Nat.add_zero, XDS]
  cases tm.x a with
  | ptr id off =>
    simp only []
    rw [← XDE_ex]
    simp only [eq_iff_iff]
    constructor
    · rintro ⟨v, e, s', ⟨id', off', h0, h1, rfl, rfl⟩, h⟩; cases h0; exact ⟨h1, s', h⟩
    · rintro ⟨h1, s', h⟩; exact ⟨_, _, s', ⟨_, _, rfl, h1, rfl, rfl⟩, h⟩
  | _ => simp
theorem lexQ_still (st : Store) (mr : Nat) (d : Option Nat) (i : AI) (h : i.still = true) (l : List AOp) (r : Nat) (K : Fr → Store → Prop) (tm : Fr) (s : Store) : lexQ P E st mr (⟨d, .none, .plain i⟩ :: l) r K tm s = XD P E (evalAI E tm st i) st mr d l r K tm s := by
  have hq : ∀ v e, qv P E st mr r (.plain i) tm v e = (evalAI E tm st i = some (v, st) ∧ e = .none) := by
    intro v e
    cases i <;> first | (simp only [AI.still, Bool.false_eq_true] at h; done) | simp only [qv, h, true_and]
  have hb : bornN ⟨d, .none, .plain i⟩ = 0 := by
    cases i <;> first | (simp only [AI.still, Bool.false_eq_true] at h; done) | rfl
  simp only [lexQ, yv, hq, hb, Nat.add_zero, XD, eq_iff_iff]
  constructor
  · rintro ⟨v, e, s', ⟨h1, rfl⟩, h2, h3⟩
    rw [h1]
    cases h2
    exact ⟨rfl, h3⟩
  · intro h1
    split at h1
    · rename_i v st' he
      obtain ⟨rfl, h1⟩ := h1
      exact ⟨v, .none, s, ⟨he, rfl⟩, rfl, h1⟩
    · exact h1.elim
theorem lexQ_call (st : Store) (mr : Nat) (d : Option Nat) (f : FuncId) (as : List AX) (l : List AOp) (r : Nat) (K : Fr → Store → Prop) (tm : Fr) (s : Store) : lexQ P E st mr (⟨d, .none, .call f as⟩ :: l) r K tm s = XDC P E f (as.map tm.x) st mr d l r K tm s := by
  simp only [lexQ, yv, qv, bornN, AK.born, Bool.false_eq_true, if_false, XDC, Nat.add_zero, eq_iff_iff]
  constructor
  · rintro ⟨v, e, s', ⟨h1, h2, rfl⟩, h3, h4⟩; cases h3; exact ⟨v, ⟨h1, h2⟩, h4⟩
  · rintro ⟨v, ⟨h1, h2⟩, h4⟩; exact ⟨v, .none, s, ⟨h1, h2, rfl⟩, rfl, h4⟩
theorem lexQ_kill (st : Store) (mr : Nat) (d : Option Nat) (f : FuncId) (as : List AX) (l : List AOp) (r : Nat) (K : Fr → Store → Prop) (tm : Fr) (s : Store) {c es id n : Nat} {xs : List AV} {v : AV} (hf : callable P f = true) (hm : AX.t c ∈ as) (ht : tm c = .sl es xs (some id)) (hl : st.length ≤ id) (hs : s[id]? = some (.tail n)) (h : KFun P E f (as.map tm.x) v id n)
    (hk : lexQ P E st mr l r K (tm.put d v) (s.set id .dead)) : lexQ P E st mr (⟨d, .none, .callv (.c (.fn f [])) as⟩ :: l) r K tm s := by
  simp only [lexQ, yv]
  refine ⟨v, .kill id n, s.set id .dead, ⟨f, rfl, hf, c, es, xs, id, n, hm, ht, hl, h, rfl⟩, ?_, ?_⟩
  · simp only [Eff.appS, hs, if_true]
  · simpa only [bornN, AK.born, Bool.false_eq_true, if_false, Nat.add_zero] using hk
theorem lexQ_guard (st : Store) (mr : Nat) (d : Option Nat) (g : Nat) (b : Bool) (i : AK) (l : List AOp) (r : Nat) (K : Fr → Store → Prop) (tm : Fr) (s : Store) : lexQ P E st mr (⟨d, .some (g, b), i⟩ :: l) r K tm s = XDG P E (tm g) b st mr d i l r K tm s := by
  simp only [lexQ, yv, XDG]
  have hb : bornN ⟨d, .some (g, b), i⟩ = bornN ⟨d, .none, i⟩ := rfl
  rw [hb]
  cases tm g with
  | bool t =>
    simp only []
    by_cases h : t = b
    · simp only [h, if_true]
    · simp only [h, if_false, eq_iff_iff]
      constructor
      · rintro ⟨v, e, s', ⟨rfl, rfl⟩, h1, h2⟩; cases h1; exact h2
      · intro h; exact ⟨_, _, s, ⟨rfl, rfl⟩, rfl, h⟩
  | tup vs =>
    simp only [eq_iff_iff]
    constructor
    · rintro ⟨v, e, s', ⟨rfl, rfl⟩, h1, h2⟩; cases h1; exact h2
    · intro h; exact ⟨_, _, s, ⟨rfl, rfl⟩, rfl, h⟩
  | _ => simp
theorem XDG_tup (vs : List AV) (b : Bool) (st : Store) (mr : Nat) (d : Option Nat) (i : AK) (l : List AOp) (r : Nat) (K : Fr → Store → Prop) (tm : Fr) (s : Store) : XDG P E (.tup vs) b st mr d i l r K tm s = lexQ P E st mr l (r + bornN ⟨d, .none, i⟩) K (tm.put d (.tup [])) s := by simp only [XDG]
theorem XDG_run (b : Bool) (st : Store) (mr : Nat) (d : Option Nat) (i : AK) (l : List AOp) (r : Nat) (K : Fr → Store → Prop) (tm : Fr) (s : Store) : XDG P E (.bool b) b st mr d i l r K tm s = lexQ P E st mr (⟨d, .none, i⟩ :: l) r K tm s := by simp only [XDG, if_true]
theorem XDG_tf (st : Store) (mr : Nat) (d : Option Nat) (i : AK) (l : List AOp) (r : Nat) (K : Fr → Store → Prop) (tm : Fr) (s : Store) : XDG P E (.bool true) false st mr d i l r K tm s = lexQ P E st mr l (r + bornN ⟨d, .none, i⟩) K (tm.put d (.tup [])) s := by simp [XDG]
theorem XDG_ft (st : Store) (mr : Nat) (d : Option Nat) (i : AK) (l : List AOp) (r : Nat) (K : Fr → Store → Prop) (tm : Fr) (s : Store) : XDG P E (.bool false) true st mr d i l r K tm s = lexQ P E st mr l (r + bornN ⟨d, .none, i⟩) K (tm.put d (.tup [])) s := by simp [XDG]
theorem xdc_fun {f : FuncId} {ds ds' : List AV} {v : AV} {mr : Nat} {d : Option Nat} {l : List AOp} {r : Nat} {K : Fr → Store → Prop} {tm : Fr} {st s : Store} (h : DFun P E f ds' v) (hd : AV.dataL ds = true) (he : AV.stripL ds = ds')
    (hk : lexQ P E st mr l r K (tm.put d v) s) : XDC P E f ds st mr d l r K tm s := ⟨v, ⟨hd, by rw [he]; exact h⟩, hk⟩

end
end Go.Proofs.YtcidnoghoifmmaaDoor.AW
