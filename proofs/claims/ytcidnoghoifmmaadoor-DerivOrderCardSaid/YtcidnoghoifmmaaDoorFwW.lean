/-
  The abstract walk, in its own words once more: code as what is still to come, frames as what was written last, stores as what is known of them.
-/
import Derived.Test.YtcidnoghoifmmaaDoorFwZ
set_option linter.unusedSimpArgs false
set_option linter.unusedVariables false
namespace Go.Proofs.YtcidnoghoifmmaaDoor.AW
open Go

def XS (P : Program) (E : Glob) (N : Nat) (mu : Nat → Bool) (b : ACode) (Q : AExit → Fr → Store → Prop) (tm : Fr) (st : Store) : Prop := ∀ c, compC P N mu c = some b → AWP P E N mu c Q tm st

def Weak (tm tm' : Fr) : Prop := ∀ (G : Gh) (a : Act), FrRel G tm a → FrRel G tm' a

section
variable {P : Program} {E : Glob} {N : Nat} {mu : Nat → Bool}

theorem Rel.weak {G : Gh} {tm tm' : Fr} {st : Store} {a : Act} {w : World} {B : Nat} (hw : Weak tm tm') (h : Rel B N E G tm st a w) : Rel B N E G tm' st a w := ⟨h.size, h.defers, hw G a h.fr, h.st⟩

theorem Weak.refl (tm : Fr) : Weak tm tm := fun _ _ h => h

theorem XS.of {b : ACode} {Q : AExit → Fr → Store → Prop} {tm : Fr} {st : Store} (h : xCode P E N mu b Q tm st) : XS P E N mu b Q tm st := fun c hc => xCode_sound c b hc Q tm st h

theorem XS.weak {b : ACode} {Q : AExit → Fr → Store → Prop} {tm tm' : Fr} {st : Store} (hw : Weak tm tm') (h : XS P E N mu b Q tm' st) : XS P E N mu b Q tm st := fun c hc B ro G a w hro hr => h c hc B ro G a w hro (hr.weak hw)

theorem XLoop.weak {b : ACode} {Q : AExit → Fr → Store → Prop} {tm tm' : Fr} {st : Store} (hw : Weak tm tm') (h : XLoop P E N mu b Q tm' st) : XLoop P E N mu b Q tm st := fun c hc B ro G a w hro hr => h c hc B ro G a w hro (hr.weak hw)

theorem compC_seq {c : Code} {x y : ACode} (h : compC P N mu c = some (.seq x y)) : ∃ a b, c = .seq a b ∧ compC P N mu a = some x ∧ compC P N mu b = some y := by
  cases c <;> try simp only [compC, reduceCtorEq] at h
  case seq a b =>
    split at h
    · rename_i ax ay h1 h2; cases h; exact ⟨a, b, rfl, h1, h2⟩
    · cases h
  case cond => split at h <;> cases h
  case block => simp only [Option.map_eq_some_iff] at h; obtain ⟨_, _, h⟩ := h; cases h
  case loop => simp only [Option.map_eq_some_iff] at h; obtain ⟨_, _, h⟩ := h; cases h
  case region id ops d =>
    cases d with
    | false => simp only [compC] at h; split at h <;> cases h
    | true =>
      simp only [compC, Option.some.injEq] at h
      rcases compReg_is P N mu ops with e | ⟨_, _, _, _, _, e⟩
      · rw [e] at h; cases h
      · rw [e] at h; cases h
  case rangeFunc =>
    split at h
    · split at h <;> cases h
    · cases h
  all_goals cases h

theorem compC_cond {c : Code} {z : AX} {x y : ACode} (h : compC P N mu c = some (.cond z x y)) : ∃ o a b, c = .cond o a b ∧ cX o = some z ∧ compC P N mu a = some x ∧ compC P N mu b = some y := by
  cases c <;> try simp only [compC, reduceCtorEq] at h
  case seq => split at h <;> cases h
  case cond o a b =>
    split at h
    · rename_i ax ay az h1 h2 h3; cases h; exact ⟨o, a, b, rfl, h1, h2, h3⟩
    · cases h
  case block => simp only [Option.map_eq_some_iff] at h; obtain ⟨_, _, h⟩ := h; cases h
  case loop => simp only [Option.map_eq_some_iff] at h; obtain ⟨_, _, h⟩ := h; cases h
  case region id ops d =>
    cases d with
    | false => simp only [compC] at h; split at h <;> cases h
    | true =>
      simp only [compC, Option.some.injEq] at h
      rcases compReg_is P N mu ops with e | ⟨_, _, _, _, _, e⟩
      · rw [e] at h; cases h
      · rw [e] at h; cases h
  case rangeFunc =>
    split at h
    · split at h <;> cases h
    · cases h
  all_goals cases h

theorem compC_block {c : Code} {i : Nat} {x : ACode} (h : compC P N mu c = some (.block i x)) : ∃ a, c = .block i a ∧ compC P N mu a = some x := by
  cases c <;> try simp only [compC, reduceCtorEq] at h
  case seq => split at h <;> cases h
  case cond => split at h <;> cases h
  case block id a => simp only [Option.map_eq_some_iff] at h; obtain ⟨_, h1, h⟩ := h; cases h; exact ⟨a, rfl, h1⟩
  case loop => simp only [Option.map_eq_some_iff] at h; obtain ⟨_, _, h⟩ := h; cases h
  case region id ops d =>
    cases d with
    | false => simp only [compC] at h; split at h <;> cases h
    | true =>
      simp only [compC, Option.some.injEq] at h
      rcases compReg_is P N mu ops with e | ⟨_, _, _, _, _, e⟩
      · rw [e] at h; cases h
      · rw [e] at h; cases h
  case rangeFunc =>
    split at h
    · split at h <;> cases h
    · cases h
  all_goals cases h

theorem XS.seq {x y : ACode} {Q : AExit → Fr → Store → Prop} {tm : Fr} {st : Store} (h : XS P E N mu x (thenQ (XS P E N mu y Q) Q) tm st) : XS P E N mu (.seq x y) Q tm st := fun c hc B ro G a w hro hr => by
  obtain ⟨c1, c2, rfl, h1, h2⟩ := compC_seq hc
  refine wpIn_seq (wpIn_mono (h c1 h1 B ro G a w hro hr) fun e a' w' ⟨xe, tm', st', G', he, hr', hext, hq⟩ => ?_)
  rcases he.cases with ⟨rfl, rfl⟩ | ⟨i, rfl, rfl⟩ | ⟨rfl, rfl⟩
  · rw [thenQ_normal] at hq
    exact wpIn_mono (hq c2 h2 B ro G' a' w' hro hr') fun e a'' w'' ⟨xe, tm'', st'', G'', q1, q2, q3, q4⟩ => ⟨xe, tm'', st'', G'', q1, q2, hext.trans q3, q4⟩
  · rw [thenQ_exit] at hq
    exact ⟨.exit i, tm', st', G', rfl, hr', hext, hq⟩
  · rw [thenQ_ret] at hq
    exact ⟨.ret, tm', st', G', trivial, hr', hext, hq⟩

theorem XS.cond {z : AX} {x y : ACode} {Q : AExit → Fr → Store → Prop} {tm : Fr} {st : Store} {t : Bool} (hz : tm.x z = .bool t) (h1 : t = true → XS P E N mu x Q tm st) (h2 : t = false → XS P E N mu y Q tm st) : XS P E N mu (.cond z x y) Q tm st := fun c hc B ro G a w hro hr => by
  obtain ⟨o, c1, c2, rfl, h0, hc1, hc2⟩ := compC_cond hc
  have hrr := rep_cX hr.fr h0
  rw [hz] at hrr
  simp only [Rep] at hrr
  exact wpIn_cond_split hrr (fun e => h1 e c1 hc1 B ro G a w hro hr) (fun e => h2 e c2 hc2 B ro G a w hro hr)

theorem XS.block {i : Nat} {x : ACode} {Q : AExit → Fr → Store → Prop} {tm : Fr} {st : Store} (h : XS P E N mu x (blockQ i Q) tm st) : XS P E N mu (.block i x) Q tm st := fun c hc B ro G a w hro hr => by
  obtain ⟨c1, rfl, h1⟩ := compC_block hc
  refine wpIn_block (wpIn_mono (h c1 h1 B ro G a w hro hr) fun e a' w' ⟨xe, tm', st', G', he, hr', hext, hq⟩ => ?_)
  rcases he.cases with ⟨rfl, rfl⟩ | ⟨j, rfl, rfl⟩ | ⟨rfl, rfl⟩
  · rw [blockQ_normal] at hq
    exact ⟨.normal, tm', st', G', trivial, hr', hext, hq⟩
  · simp only [blockQ] at hq
    simp only [Exit.inBlock]
    split
    · rename_i hi
      rw [if_pos hi] at hq
      exact ⟨.normal, tm', st', G', trivial, hr', hext, hq⟩
    · rename_i hi
      rw [if_neg hi] at hq
      exact ⟨.exit j, tm', st', G', rfl, hr', hext, hq⟩
  · rw [blockQ_ret] at hq
    exact ⟨.ret, tm', st', G', trivial, hr', hext, hq⟩

theorem XLoop.once {b : ACode} {Q : AExit → Fr → Store → Prop} {tm : Fr} {st : Store} (h : XS P E N mu b (thenQ (XLoop P E N mu b Q) Q) tm st) : XLoop P E N mu b Q tm st := fun c hc B ro G a w hro hr f k cs hf => by
  obtain ⟨e, a₁, w₁, ⟨x, tm', st', G', he, hr', hext', hq⟩, harr⟩ := h c hc B ro G a w hro hr f (.inLoop c :: k) cs hf trivial (fen_room _)
  rcases he.cases with ⟨rfl, rfl⟩ | ⟨i, rfl, rfl⟩ | ⟨rfl, rfl⟩
  · rw [thenQ_normal] at hq
    obtain ⟨e₂, a₂, w₂, ⟨x, tm₂, st₂, G₂, he₂, hr₂, hext₂, hq₂⟩, harr₂⟩ := hq c hc B ro G' a₁ w₁ hro hr' f k cs hf
    exact ⟨e₂, a₂, w₂, ⟨x, tm₂, st₂, G₂, he₂, hr₂, hext'.trans hext₂, hq₂⟩, .of_steps (StepsIn.trans harr (.one (fenced_calm (n := 0) trivial (fen_room _) rfl) stepR_inLoop)) harr₂⟩
  · rw [thenQ_exit] at hq
    exact ⟨.exit i, a₁, w₁, ⟨.exit i, tm', st', G', rfl, hr', hext', hq⟩, .pass (x := .inLoop c) rfl (fun _ _ => .inl (by simp)) harr⟩
  · rw [thenQ_ret] at hq
    exact ⟨.ret, a₁, w₁, ⟨.ret, tm', st', G', trivial, hr', hext', hq⟩, .pass (x := .inLoop c) rfl (fun _ _ => .inl (by simp)) harr⟩
end


inductive KI where
  | seq (c : ACode)
  | blk (id : Nat)
  | lp (b : ACode)

structure Cx where
  P : Program
  E : Glob
  N : Nat
  mu : Nat → Bool
  res : List RA
  K : AV → Store → Prop
  fin : AExit → Fr → Store → Prop

def kQ (X : Cx) : List KI → AExit → Fr → Store → Prop
  | [] => endQ X.E X.res X.K
  | .seq c :: k => thenQ (XS X.P X.E X.N X.mu c (kQ X k)) (kQ X k)
  | .blk id :: k => blockQ id (kQ X k)
  | .lp b :: k => thenQ (XLoop X.P X.E X.N X.mu b (kQ X k)) (kQ X k)

def At (X : Cx) (c : ACode) (k : List KI) (tm : Fr) (st : Store) : Prop := XS X.P X.E X.N X.mu c (kQ X k) tm st
section
variable {X : Cx} {k : List KI} {tm tm' : Fr} {st : Store}

end


def upd (tm : Fr) (d : Nat) (v : AV) : Fr := fun i => bif Nat.beq d i then v else tm i

theorem put_upd (tm : Fr) (d : Nat) (v : AV) : tm.put (.some d) v = upd tm d v := by
  funext i
  simp only [Fr.put, upd, Option.some.injEq]
  by_cases h : d = i
  · subst h; simp
  · have : Nat.beq d i = false := by cases e : Nat.beq d i with
      | false => rfl
      | true => exact absurd (Nat.eq_of_beq_eq_true e) h
    simp [h, this]

section
variable {X : Cx} {k : List KI} {tm : Fr} {st : Store} {l suf : List AOp} {d : Nat} {st0 : Store} {mr r : Nat}

theorem xcall_strip {P : Program} {E : Glob} {f : FuncId} {ds : List AV} {st : Store} {K : AV → Store → Prop} (h : XCall P E f ds st fun v st' => v.data = true ∧ K v.strip st') : XCall P E f ds st K := fun G w vs hr hs =>
  (h G w vs hr hs).mono fun _ _ ⟨u, r, st', G', h1, h2, h3, h4, h5, h6⟩ => ⟨u, r.strip, st', G', h1, strip_rep (fun _ _ _ h => h) h5 h2, h3, h4, h6⟩
end

theorem xcall_at {P : Program} {E : Glob} {mu : Nat → Bool} {f : FuncId} {fn : AFunc} {ds : List AV} {st : Store} {K : AV → Store → Prop} (hf : compF P mu f = some fn) (hl : ds.length ≤ fn.n)
    (h : At ⟨P, E, fn.n, mu, fn.res, K, endQ E fn.res K⟩ fn.body [] (frInit ds) st) : XCall P E f ds st K := by
  refine xcallS hf hl fun c hc => ?_
  have e : endQ E fn.res K = (fun e tm st' => match e with
      | .exit _ => False
      | _ => match resL E tm st' fn.res with
        | some vs => K (pack vs) st'
        | none => False) := by
    funext e tm st'
    cases e <;> rfl
  have := h c hc
  simp only [kQ] at this
  rwa [e] at this
theorem dfun_at {P : Program} {E : Glob} {mu : Nat → Bool} {f : FuncId} {fn : AFunc} {ds : List AV} {r : AV} (hf : compF P mu f = some fn) (hl : ds.length ≤ fn.n)
    (h : At ⟨P, E, fn.n, mu, fn.res, isD (fun x => x = r), endQ E fn.res (isD (fun x => x = r))⟩ fn.body [] (frInit ds) []) : DFun P E f ds r := xcall_at hf hl h
end Go.Proofs.YtcidnoghoifmmaaDoor.AW
