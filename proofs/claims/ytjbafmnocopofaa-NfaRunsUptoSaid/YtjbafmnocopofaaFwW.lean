/-
  The abstract walk, in its own words once more: code as what is still to come, frames as what was written last, stores as what is known of them.
-/
import Derived.Test.YtjbafmnocopofaaFwZ
set_option linter.unusedSimpArgs false
set_option linter.unusedVariables false
namespace Go.Proofs.Ytjbafmnocopofaa.AW
open Go

/-- What code asks for, whatever code of the program's it is. -/
def XS (P : Program) (E : Glob) (N : Nat) (mu : Nat → Bool) (b : ACode) (Q : AExit → Fr → Store → Prop) (tm : Fr) (st : Store) : Prop := ∀ c, compC P N mu c = some b → AWP P E N mu c Q tm st

/-- Another frame that tells less. -/
def Weak (tm tm' : Fr) : Prop := ∀ (G : Gh) (a : Act), FrRel G tm a → FrRel G tm' a

section
variable {P : Program} {E : Glob} {N : Nat} {mu : Nat → Bool}

theorem Rel.weak {G : Gh} {tm tm' : Fr} {st : Store} {a : Act} {w : World} {B : Nat} (hw : Weak tm tm') (h : Rel B N E G tm st a w) : Rel B N E G tm' st a w := ⟨h.size, h.defers, hw G a h.fr, h.st⟩

theorem Weak.refl (tm : Fr) : Weak tm tm := fun _ _ h => h

theorem XS.of {b : ACode} {Q : AExit → Fr → Store → Prop} {tm : Fr} {st : Store} (h : xCode P E N mu b Q tm st) : XS P E N mu b Q tm st := fun c hc => xCode_sound c b hc Q tm st h

theorem XS.weak {b : ACode} {Q : AExit → Fr → Store → Prop} {tm tm' : Fr} {st : Store} (hw : Weak tm tm') (h : XS P E N mu b Q tm' st) : XS P E N mu b Q tm st := fun c hc B ro G a w hro hr => h c hc B ro G a w hro (hr.weak hw)

theorem XLoop.weak {b : ACode} {Q : AExit → Fr → Store → Prop} {tm tm' : Fr} {st : Store} (hw : Weak tm tm') (h : XLoop P E N mu b Q tm' st) : XLoop P E N mu b Q tm st := fun c hc B ro G a w hro hr => h c hc B ro G a w hro (hr.weak hw)

theorem compC_seq {c : Code} {x y : ACode} (h : compC P N mu c = some (.seq x y)) : ∃ a b, c = .seq a b ∧ compC P N mu a = some x ∧ compC P N mu b = some y := by
  cases c <;> try simp only [compC, reduceCtorEq] at h
  case seq a b =>
    split at h
    · rename_i ax ay h1 h2; cases h; exact ⟨a, b, rfl, h1, h2⟩
    · cases h
  case cond => split at h <;> cases h
  case block => simp only [Option.map_eq_some_iff] at h; obtain ⟨_, _, h⟩ := h; cases h
  case loop => simp only [Option.map_eq_some_iff] at h; obtain ⟨_, _, h⟩ := h; cases h
  case region id ops d =>
    cases d with
    | false => simp only [compC] at h; split at h <;> cases h
    | true =>
      simp only [compC, Option.some.injEq] at h
      rcases compReg_is P N mu ops with e | ⟨_, _, _, _, _, e⟩
      · rw [e] at h; cases h
      · rw [e] at h; cases h
  case rangeFunc =>
    split at h
    · split at h <;> cases h
    · cases h
  all_goals cases h

theorem compC_cond {c : Code} {z : AX} {x y : ACode} (h : compC P N mu c = some (.cond z x y)) : ∃ o a b, c = .cond o a b ∧ cX o = some z ∧ compC P N mu a = some x ∧ compC P N mu b = some y := by
  cases c <;> try simp only [compC, reduceCtorEq] at h
  case seq => split at h <;> cases h
  case cond o a b =>
    split at h
    · rename_i ax ay az h1 h2 h3; cases h; exact ⟨o, a, b, rfl, h1, h2, h3⟩
    · cases h
  case block => simp only [Option.map_eq_some_iff] at h; obtain ⟨_, _, h⟩ := h; cases h
  case loop => simp only [Option.map_eq_some_iff] at h; obtain ⟨_, _, h⟩ := h; cases h
  case region id ops d =>
    cases d with
    | false => simp only [compC] at h; split at h <;> cases h
    | true =>
      simp only [compC, Option.some.injEq] at h
      rcases compReg_is P N mu ops with e | ⟨_, _, _, _, _, e⟩
      · rw [e] at h; cases h
      · rw [e] at h; cases h
  case rangeFunc =>
    split at h
    · split at h <;> cases h
    · cases h
  all_goals cases h

theorem compC_block {c : Code} {i : Nat} {x : ACode} (h : compC P N mu c = some (.block i x)) : ∃ a, c = .block i a ∧ compC P N mu a = some x := by
  cases c <;> try simp only [compC, reduceCtorEq] at h
  case seq => split at h <;> cases h
  case cond => split at h <;> cases h
  case block id a => simp only [Option.map_eq_some_iff] at h; obtain ⟨_, h1, h⟩ := h; cases h; exact ⟨a, rfl, h1⟩
  case loop => simp only [Option.map_eq_some_iff] at h; obtain ⟨_, _, h⟩ := h; cases h
  case region id ops d =>
    cases d with
    | false => simp only [compC] at h; split at h <;> cases h
    | true =>
      simp only [compC, Option.some.injEq] at h
      rcases compReg_is P N mu ops with e | ⟨_, _, _, _, _, e⟩
      · rw [e] at h; cases h
      · rw [e] at h; cases h
  case rangeFunc =>
    split at h
    · split at h <;> cases h
    · cases h
  all_goals cases h

theorem XS.seq {x y : ACode} {Q : AExit → Fr → Store → Prop} {tm : Fr} {st : Store} (h : XS P E N mu x (thenQ (XS P E N mu y Q) Q) tm st) : XS P E N mu (.seq x y) Q tm st := fun c hc B ro G a w hro hr => by
  obtain ⟨c1, c2, rfl, h1, h2⟩ := compC_seq hc
  refine wpIn_seq (wpIn_mono (h c1 h1 B ro G a w hro hr) fun e a' w' ⟨xe, tm', st', G', he, hr', hext, hq⟩ => ?_)
  rcases he.cases with ⟨rfl, rfl⟩ | ⟨i, rfl, rfl⟩ | ⟨rfl, rfl⟩
  · rw [thenQ_normal] at hq
    exact wpIn_mono (hq c2 h2 B ro G' a' w' hro hr') fun e a'' w'' ⟨xe, tm'', st'', G'', q1, q2, q3, q4⟩ => ⟨xe, tm'', st'', G'', q1, q2, hext.trans q3, q4⟩
  · rw [thenQ_exit] at hq
    exact ⟨.exit i, tm', st', G', rfl, hr', hext, hq⟩
  · rw [thenQ_ret] at hq
    exact ⟨.ret, tm', st', G', trivial, hr', hext, hq⟩

theorem XS.cond {z : AX} {x y : ACode} {Q : AExit → Fr → Store → Prop} {tm : Fr} {st : Store} {t : Bool} (hz : tm.x z = .bool t) (h1 : t = true → XS P E N mu x Q tm st) (h2 : t = false → XS P E N mu y Q tm st) : XS P E N mu (.cond z x y) Q tm st := fun c hc B ro G a w hro hr => by
  obtain ⟨o, c1, c2, rfl, h0, hc1, hc2⟩ := compC_cond hc
  have hrr := rep_cX hr.fr h0
  rw [hz] at hrr
  simp only [Rep] at hrr
  exact wpIn_cond_split hrr (fun e => h1 e c1 hc1 B ro G a w hro hr) (fun e => h2 e c2 hc2 B ro G a w hro hr)

theorem XS.block {i : Nat} {x : ACode} {Q : AExit → Fr → Store → Prop} {tm : Fr} {st : Store} (h : XS P E N mu x (blockQ i Q) tm st) : XS P E N mu (.block i x) Q tm st := fun c hc B ro G a w hro hr => by
  obtain ⟨c1, rfl, h1⟩ := compC_block hc
  refine wpIn_block (wpIn_mono (h c1 h1 B ro G a w hro hr) fun e a' w' ⟨xe, tm', st', G', he, hr', hext, hq⟩ => ?_)
  rcases he.cases with ⟨rfl, rfl⟩ | ⟨j, rfl, rfl⟩ | ⟨rfl, rfl⟩
  · rw [blockQ_normal] at hq
    exact ⟨.normal, tm', st', G', trivial, hr', hext, hq⟩
  · simp only [blockQ] at hq
    simp only [Exit.inBlock]
    split
    · rename_i hi
      rw [if_pos hi] at hq
      exact ⟨.normal, tm', st', G', trivial, hr', hext, hq⟩
    · rename_i hi
      rw [if_neg hi] at hq
      exact ⟨.exit j, tm', st', G', rfl, hr', hext, hq⟩
  · rw [blockQ_ret] at hq
    exact ⟨.ret, tm', st', G', trivial, hr', hext, hq⟩

theorem XLoop.once {b : ACode} {Q : AExit → Fr → Store → Prop} {tm : Fr} {st : Store} (h : XS P E N mu b (thenQ (XLoop P E N mu b Q) Q) tm st) : XLoop P E N mu b Q tm st := fun c hc B ro G a w hro hr f k cs hf => by
  obtain ⟨e, a₁, w₁, ⟨x, tm', st', G', he, hr', hext', hq⟩, harr⟩ := h c hc B ro G a w hro hr f (.inLoop c :: k) cs hf trivial (fen_room _)
  rcases he.cases with ⟨rfl, rfl⟩ | ⟨i, rfl, rfl⟩ | ⟨rfl, rfl⟩
  · rw [thenQ_normal] at hq
    obtain ⟨e₂, a₂, w₂, ⟨x, tm₂, st₂, G₂, he₂, hr₂, hext₂, hq₂⟩, harr₂⟩ := hq c hc B ro G' a₁ w₁ hro hr' f k cs hf
    exact ⟨e₂, a₂, w₂, ⟨x, tm₂, st₂, G₂, he₂, hr₂, hext'.trans hext₂, hq₂⟩, .of_steps (StepsIn.trans harr (.one (fenced_calm (n := 0) trivial (fen_room _) rfl) stepR_inLoop)) harr₂⟩
  · rw [thenQ_exit] at hq
    exact ⟨.exit i, a₁, w₁, ⟨.exit i, tm', st', G', rfl, hr', hext', hq⟩, .pass (x := .inLoop c) rfl (fun _ _ => .inl (by simp)) harr⟩
  · rw [thenQ_ret] at hq
    exact ⟨.ret, a₁, w₁, ⟨.ret, tm', st', G', trivial, hr', hext', hq⟩, .pass (x := .inLoop c) rfl (fun _ _ => .inl (by simp)) harr⟩
end

/-! ### A function's walk: what is still to come, as a list -/

inductive KI where
  | seq (c : ACode)
  | blk (id : Nat)
  | lp (b : ACode)

/-- A call that is walked: the program, its variables, the number of slots, the results, what is asked of them. -/
structure Cx where
  P : Program
  E : Glob
  N : Nat
  mu : Nat → Bool
  res : List RA
  K : AV → Store → Prop
  fin : AExit → Fr → Store → Prop

def kQ (X : Cx) : List KI → AExit → Fr → Store → Prop
  | [] => endQ X.E X.res X.K
  | .seq c :: k => thenQ (XS X.P X.E X.N X.mu c (kQ X k)) (kQ X k)
  | .blk id :: k => blockQ id (kQ X k)
  | .lp b :: k => thenQ (XLoop X.P X.E X.N X.mu b (kQ X k)) (kQ X k)

def At (X : Cx) (c : ACode) (k : List KI) (tm : Fr) (st : Store) : Prop := XS X.P X.E X.N X.mu c (kQ X k) tm st
def AtL (X : Cx) (b : ACode) (k : List KI) (tm : Fr) (st : Store) : Prop := XLoop X.P X.E X.N X.mu b (kQ X k) tm st
def AtO (X : Cx) (l : List AOp) (k : List KI) (tm : Fr) (st : Store) : Prop := xOps X.P X.E l (kQ X k .normal) tm st
/-- Within a statement that draws its order. -/
def AtD (X : Cx) (st0 : Store) (mr : Nat) (l : List AOp) (r : Nat) (suf : List AOp) (k : List KI) (tm : Fr) (st : Store) : Prop :=
  lexQ X.P X.E st0 mr l r (fun tm' s => xOps X.P X.E suf (kQ X k .normal) tm' s) tm st
def AtN (X : Cx) (k : List KI) (tm : Fr) (st : Store) : Prop := kQ X k .normal tm st
def AtX (X : Cx) (k : List KI) (i : Nat) (tm : Fr) (st : Store) : Prop := kQ X k (.exit i) tm st
def AtR (X : Cx) (tm : Fr) (st : Store) : Prop := endQ X.E X.res X.K .ret tm st

/-- Where an exit of a block leads. -/
def kdrop : List KI → Nat → Option (List KI)
  | [], _ => none
  | .blk id :: k, i => if i = id then some k else kdrop k i
  | _ :: k, i => kdrop k i

section
variable {X : Cx} {k : List KI} {tm tm' : Fr} {st : Store}

theorem at_weak {c : ACode} (hw : Weak tm tm') (h : At X c k tm' st) : At X c k tm st := XS.weak hw h
theorem atl_weak {b : ACode} (hw : Weak tm tm') (h : AtL X b k tm' st) : AtL X b k tm st := XLoop.weak hw h
theorem at_seq {a b : ACode} (h : At X a (.seq b :: k) tm st) : At X (.seq a b) k tm st := XS.seq h
theorem at_skip (h : AtN X k tm st) : At X .skip k tm st := XS.of (by rw [xCode_skip]; exact h)
theorem at_ops {l : List AOp} (h : AtO X l k tm st) : At X (.ops l) k tm st := XS.of (by rw [xCode_ops]; exact h)
theorem at_draw {sas : List AX} {mr nb : Nat} {q suf : List AOp} (h : AtD X (maskS (sas.map tm.x) st) mr q 0 suf k tm (st ++ List.replicate nb .unborn)) : At X (.draw sas mr nb q suf) k tm st := XS.of (by rw [xCode_draw]; exact h)
theorem at_cond {z : AX} {x y : ACode} {t : Bool} (hz : tm.x z = .bool t) (h1 : t = true → At X x k tm st) (h2 : t = false → At X y k tm st) : At X (.cond z x y) k tm st := XS.cond hz h1 h2
theorem at_cond_t {z : AX} {x y : ACode} {t : Bool} (hz : tm.x z = .bool t) (ht : t = true) (h1 : At X x k tm st) : At X (.cond z x y) k tm st := XS.cond hz (fun _ => h1) (fun e => by rw [ht] at e; cases e)
theorem at_cond_f {z : AX} {x y : ACode} {t : Bool} (hz : tm.x z = .bool t) (ht : t = false) (h2 : At X y k tm st) : At X (.cond z x y) k tm st := XS.cond hz (fun e => by rw [ht] at e; cases e) (fun _ => h2)
theorem at_block {i : Nat} {x : ACode} (h : At X x (.blk i :: k) tm st) : At X (.block i x) k tm st := XS.block h
theorem at_loop {b : ACode} (h : AtL X b k tm st) : At X (.loop b) k tm st := XS.of (by rw [xCode_loop]; exact h)
theorem atl_once {b : ACode} (h : At X b (.lp b :: k) tm st) : AtL X b k tm st := XLoop.once h
theorem at_exit {i : Nat} (h : AtX X k i tm st) : At X (.exit i) k tm st := XS.of (by rw [xCode_exit]; exact h)
theorem kQ_ret (tm : Fr) (st : Store) : ∀ k, kQ X k .ret tm st = endQ X.E X.res X.K .ret tm st
  | [] => rfl
  | .seq c :: k => by simp only [kQ, thenQ_ret, kQ_ret tm st k]
  | .blk id :: k => by simp only [kQ, blockQ_ret, kQ_ret tm st k]
  | .lp b :: k => by simp only [kQ, thenQ_ret, kQ_ret tm st k]
theorem at_ret (h : AtR X tm st) : At X .ret k tm st := XS.of (by rw [xCode_ret, kQ_ret]; exact h)
theorem ato_nil (h : AtN X k tm st) : AtO X [] k tm st := by simp only [AtO, xOps_nil]; exact h
theorem atd_nil {st0 : Store} {mr r : Nat} {suf : List AOp} (h : AtO X suf k tm st) : AtD X st0 mr [] r suf k tm st := by simp only [AtD, lexQ_nil]; exact h
theorem atn_seq {c : ACode} (h : At X c k tm st) : AtN X (.seq c :: k) tm st := h
theorem atn_blk {i : Nat} (h : AtN X k tm st) : AtN X (.blk i :: k) tm st := h
theorem atn_lp {b : ACode} (h : AtL X b k tm st) : AtN X (.lp b :: k) tm st := h
theorem atn_end (h : AtR X tm st) : AtN X [] tm st := h
theorem atx {i : Nat} {k' : List KI} : ∀ {k : List KI}, kdrop k i = some k' → AtN X k' tm st → AtX X k i tm st
  | [], h, _ => by simp [kdrop] at h
  | .seq c :: k, h, hn => by
    have := atx (k := k) h hn
    simpa only [AtX, kQ, thenQ_exit] using this
  | .lp c :: k, h, hn => by
    have := atx (k := k) h hn
    simpa only [AtX, kQ, thenQ_exit] using this
  | .blk id :: k, h, hn => by
    simp only [kdrop] at h
    simp only [AtX, kQ, blockQ]
    split at h
    · rename_i e
      cases h
      rw [if_pos e]; exact hn
    · rename_i e
      rw [if_neg e]
      exact atx h hn
end

/-! ### Frames -/

/-- A slot that is written. -/
def upd (tm : Fr) (d : Nat) (v : AV) : Fr := fun i => bif Nat.beq d i then v else tm i

theorem put_upd (tm : Fr) (d : Nat) (v : AV) : tm.put (.some d) v = upd tm d v := by
  funext i
  simp only [Fr.put, upd, Option.some.injEq]
  by_cases h : d = i
  · subst h; simp
  · have : Nat.beq d i = false := by cases e : Nat.beq d i with
      | false => rfl
      | true => exact absurd (Nat.eq_of_beq_eq_true e) h
    simp [h, this]

section
variable {X : Cx} {k : List KI} {tm : Fr} {st : Store} {l suf : List AOp} {d : Nat} {st0 : Store} {mr r : Nat}

theorem xo {i : AI} {v : AV} {st' : Store} (h : evalAI X.E tm st i = some (v, st')) (hk : AtO X l k (upd tm d v) st') : AtO X (⟨.some d, .none, .plain i⟩ :: l) k tm st := by
  simp only [AtO, xOps_plain, h, XO_some, put_upd]; exact hk
theorem xo0 {i : AI} {v : AV} {st' : Store} (h : evalAI X.E tm st i = some (v, st')) (hk : AtO X l k tm st') : AtO X (⟨.none, .none, .plain i⟩ :: l) k tm st := by
  simp only [AtO, xOps_plain, h, XO_some, put_none]; exact hk
theorem xd {i : AI} {v : AV} (hs : i.still = true) (h : evalAI X.E tm st0 i = some (v, st0)) (hk : AtD X st0 mr l r suf k (upd tm d v) st) : AtD X st0 mr (⟨.some d, .none, .plain i⟩ :: l) r suf k tm st := by
  simp only [AtD, lexQ_still _ _ _ _ hs, h, XD_some, put_upd]; exact hk
/-- An operation that runs only if a bool is so: it runs. -/
theorem xo_on {d : Option Nat} {g : Nat} {b t : Bool} {i : AK} (hg : tm g = .bool t) (ht : t = b) (hk : AtO X (⟨d, .none, i⟩ :: l) k tm st) : AtO X (⟨d, .some (g, b), i⟩ :: l) k tm st := by
  subst ht
  simp only [AtO, xOps_guard, hg, XG_run]; exact hk
theorem xo_off {g : Nat} {b t : Bool} {i : AK} (hg : tm g = .bool t) (ht : t = !b) (hk : AtO X l k (upd tm d (.tup [])) st) : AtO X (⟨.some d, .some (g, b), i⟩ :: l) k tm st := by
  subst ht
  cases b
  · simp only [AtO, xOps_guard, hg, Bool.not_false, XG_tf, put_upd]; exact hk
  · simp only [AtO, xOps_guard, hg, Bool.not_true, XG_ft, put_upd]; exact hk
theorem xo_off' {g : Nat} {b : Bool} {i : AK} (hg : tm g = .tup []) (hk : AtO X l k (upd tm d (.tup [])) st) : AtO X (⟨.some d, .some (g, b), i⟩ :: l) k tm st := by
  simp only [AtO, xOps_guard, hg, XG_tup, put_upd]; exact hk
theorem xd_on {d : Option Nat} {g : Nat} {b t : Bool} {i : AK} (hg : tm g = .bool t) (ht : t = b) (hk : AtD X st0 mr (⟨d, .none, i⟩ :: l) r suf k tm st) : AtD X st0 mr (⟨d, .some (g, b), i⟩ :: l) r suf k tm st := by
  subst ht
  simp only [AtD, lexQ_guard, hg, XDG_run]; exact hk
theorem xd_off {g : Nat} {b t : Bool} {i : AK} (hg : tm g = .bool t) (ht : t = !b) (hb : bornN ⟨.some d, .none, i⟩ = 0) (hk : AtD X st0 mr l r suf k (upd tm d (.tup [])) st) : AtD X st0 mr (⟨.some d, .some (g, b), i⟩ :: l) r suf k tm st := by
  subst ht
  cases b
  · simp only [AtD, lexQ_guard, hg, Bool.not_false, XDG_tf, put_upd, hb, Nat.add_zero]; exact hk
  · simp only [AtD, lexQ_guard, hg, Bool.not_true, XDG_ft, put_upd, hb, Nat.add_zero]; exact hk
theorem xd_off' {g : Nat} {b : Bool} {i : AK} (hg : tm g = .tup []) (hb : bornN ⟨.some d, .none, i⟩ = 0) (hk : AtD X st0 mr l r suf k (upd tm d (.tup [])) st) : AtD X st0 mr (⟨.some d, .some (g, b), i⟩ :: l) r suf k tm st := by
  simp only [AtD, lexQ_guard, hg, XDG_tup, put_upd, hb, Nat.add_zero]; exact hk
/-- A call that is handed plain data and hands back just this. -/
theorem xo_dfun {f : FuncId} {as : List AX} {ds' : List AV} {v : AV} (h : DFun X.P X.E f ds' v) (hd : AV.dataL (as.map tm.x) = true) (he : AV.stripL (as.map tm.x) = ds') (hk : AtO X l k (upd tm d v) st) : AtO X (⟨.some d, .none, .call f as⟩ :: l) k tm st := by
  simp only [AtO, xOps_call]
  exact xc_fun h hd he (by rw [put_upd]; exact hk)
theorem xd_dfun {f : FuncId} {as : List AX} {ds' : List AV} {v : AV} (h : DFun X.P X.E f ds' v) (hd : AV.dataL (as.map tm.x) = true) (he : AV.stripL (as.map tm.x) = ds') (hk : AtD X st0 mr l r suf k (upd tm d v) st) : AtD X st0 mr (⟨.some d, .none, .call f as⟩ :: l) r suf k tm st := by
  simp only [AtD, lexQ_call]
  exact xdc_fun h hd he (by rw [put_upd]; exact hk)
theorem xo_call {f : FuncId} {as : List AX} (h : XCall X.P X.E f (as.map tm.x) st fun v st' => AtO X l k (upd tm d v) st') : AtO X (⟨.some d, .none, .call f as⟩ :: l) k tm st := by
  simp only [AtO, xOps_call, XC, put_upd]
  exact h
theorem xo_call0 {f : FuncId} {as : List AX} (h : XCall X.P X.E f (as.map tm.x) st fun _ st' => AtO X l k tm st') : AtO X (⟨.none, .none, .call f as⟩ :: l) k tm st := by
  simp only [AtO, xOps_call, XC, put_none]
  exact h

/-- A call's result, no longer to be appended to. -/
theorem xcall_strip {P : Program} {E : Glob} {f : FuncId} {ds : List AV} {st : Store} {K : AV → Store → Prop} (h : XCall P E f ds st fun v st' => v.data = true ∧ K v.strip st') : XCall P E f ds st K := fun G w vs hr hs =>
  (h G w vs hr hs).mono fun _ _ ⟨u, r, st', G', h1, h2, h3, h4, h5, h6⟩ => ⟨u, r.strip, st', G', h1, strip_rep (fun _ _ _ h => h) h5 h2, h3, h4, h6⟩
end

/-! ### A function -/
theorem xcall_at {P : Program} {E : Glob} {mu : Nat → Bool} {f : FuncId} {fn : AFunc} {ds : List AV} {st : Store} {K : AV → Store → Prop} (hf : compF P mu f = some fn) (hl : ds.length ≤ fn.n)
    (h : At ⟨P, E, fn.n, mu, fn.res, K, endQ E fn.res K⟩ fn.body [] (frInit ds) st) : XCall P E f ds st K := by
  refine xcallS hf hl fun c hc => ?_
  have e : endQ E fn.res K = (fun e tm st' => match e with
      | .exit _ => False
      | _ => match resL E tm st' fn.res with
        | some vs => K (pack vs) st'
        | none => False) := by
    funext e tm st'
    cases e <;> rfl
  have := h c hc
  simp only [kQ] at this
  rwa [e] at this
theorem dfun_at {P : Program} {E : Glob} {mu : Nat → Bool} {f : FuncId} {fn : AFunc} {ds : List AV} {r : AV} (hf : compF P mu f = some fn) (hl : ds.length ≤ fn.n)
    (h : At ⟨P, E, fn.n, mu, fn.res, isD (fun x => x = r), endQ E fn.res (isD (fun x => x = r))⟩ fn.body [] (frInit ds) []) : DFun P E f ds r := xcall_at hf hl h
end Go.Proofs.Ytjbafmnocopofaa.AW
