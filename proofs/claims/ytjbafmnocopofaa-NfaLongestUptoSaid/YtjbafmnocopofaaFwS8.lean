/-
  Function values: a range over a function, its rounds, the calls of yield; boxes that are never written to again.
-/
import Derived.Test.YtjbafmnocopofaaFwRow2
import Derived.Test.YtjbafmnocopofaaFwS7
set_option linter.unusedVariables false
set_option linter.unusedSimpArgs false
namespace Go.Proofs.Ytjbafmnocopofaa.AW
open Go

/-! ### Parts, put together as one -/
def bun (l : List Asn) : Asn := starL l
theorem SH.unbun {st : Store} {l L : List Asn} (h : SH st (bun l :: L)) : SH st (l ++ L) := starL_app.2 h
theorem SH.bun {st : Store} {l L : List Asn} (h : SH st (l ++ L)) : SH st (bun l :: L) := starL_app.1 h
/-- The parts behind a first one. -/
theorem SH.tail {st : Store} {P : Asn} {L : List Asn} (h : SH st (P :: L)) : SH st L := by
  obtain ⟨a, b, h1, h2, h3, h4⟩ := h
  refine starL_congr (fun i => ?_) (starL_mono h3.symm h2)
  exact ((h4 i).trans (PH.or_comm h3 i)).symm
theorem SH.kill {st : Store} {id : Nat} {o : AObj} {L : List Asn} (h : SH st (pt id o :: L)) : SH (st.set id .dead) L := (SH.set h (j := 0) rfl .dead).tail
theorem SH.set0 {st : Store} {id : Nat} {o : AObj} {L : List Asn} (h : SH st (pt id o :: L)) (o' : AObj) : SH (st.set id o') (pt id o' :: L) := SH.set h (j := 0) rfl o'
theorem SH.at0 {st : Store} {id : Nat} {o : AObj} {L : List Asn} (h : SH st (pt id o :: L)) : st[id]? = some o := SH.g h 0 rfl

/-- An object that owns slices: it, and what it owns, wherever that lies. -/
def bx1 (A : Nat → List Asn) : Asn := fun h => ∃ j, starL (A j) h
def bx2 (A : Nat → Nat → List Asn) : Asn := fun h => ∃ j k, starL (A j k) h
def bx3 (A : Nat → Nat → Nat → List Asn) : Asn := fun h => ∃ j k l, starL (A j k l) h
theorem SH.bx1o {st : Store} {A : Nat → List Asn} {L : List Asn} (h : SH st (bx1 A :: L)) : ∃ j, SH st (A j ++ L) := by
  obtain ⟨a, b, ⟨j, h1⟩, h2, h3, h4⟩ := h
  exact ⟨j, starL_app.2 ⟨a, b, h1, h2, h3, h4⟩⟩
theorem SH.bx2o {st : Store} {A : Nat → Nat → List Asn} {L : List Asn} (h : SH st (bx2 A :: L)) : ∃ j k, SH st (A j k ++ L) := by
  obtain ⟨a, b, ⟨j, k, h1⟩, h2, h3, h4⟩ := h
  exact ⟨j, k, starL_app.2 ⟨a, b, h1, h2, h3, h4⟩⟩
theorem SH.bx3o {st : Store} {A : Nat → Nat → Nat → List Asn} {L : List Asn} (h : SH st (bx3 A :: L)) : ∃ j k l, SH st (A j k l ++ L) := by
  obtain ⟨a, b, ⟨j, k, l, h1⟩, h2, h3, h4⟩ := h
  exact ⟨j, k, l, starL_app.2 ⟨a, b, h1, h2, h3, h4⟩⟩
theorem SH.bx1c {st : Store} {A : Nat → List Asn} {L : List Asn} (j : Nat) (h : SH st (A j ++ L)) : SH st (bx1 A :: L) := by
  obtain ⟨a, b, h1, h2, h3, h4⟩ := starL_app.1 h
  exact ⟨a, b, ⟨j, h1⟩, h2, h3, h4⟩
theorem SH.bx2c {st : Store} {A : Nat → Nat → List Asn} {L : List Asn} (j k : Nat) (h : SH st (A j k ++ L)) : SH st (bx2 A :: L) := by
  obtain ⟨a, b, h1, h2, h3, h4⟩ := starL_app.1 h
  exact ⟨a, b, ⟨j, k, h1⟩, h2, h3, h4⟩
theorem SH.bx3c {st : Store} {A : Nat → Nat → Nat → List Asn} {L : List Asn} (j k l : Nat) (h : SH st (A j k l ++ L)) : SH st (bx3 A :: L) := by
  obtain ⟨a, b, h1, h2, h3, h4⟩ := starL_app.1 h
  exact ⟨a, b, ⟨j, k, l, h1⟩, h2, h3, h4⟩
/-- The same cells, told otherwise. -/
theorem SH.cong {st : Store} {id : Nat} {cs : List AV} {L L' : List Asn} (hs : SH st L) (j : Nat) (hj : L[j]? = some (pt id (.cells cs))) {cs' : List AV} (h : cs = cs') (hL : setL L j (pt id (.cells cs')) = some L') : SH st L' := by
  subst h
  have e := setL_eq hL
  have e2 : L.set j (pt id (.cells cs)) = L := by
    refine List.ext_getElem? fun i => ?_
    by_cases e3 : j = i
    · subst e3; rw [List.getElem?_set_self (List.getElem?_eq_some_iff.1 hj).1, hj]
    · rw [List.getElem?_set_ne e3]
  rw [e, e2]; exact hs

/-! ### A round -/
/-- The loop's left sides, written. -/
def putL (tm : Fr) : List Nat → List AV → Fr
  | [], _ => tm
  | _ :: _, [] => tm
  | p :: ps, v :: vs => putL (upd tm p v) ps vs

theorem putL_rel {G : Gh} {N : Nat} : ∀ {ps : List Nat} {ds : List AV} {vs : List Value} {tm : Fr} {T : Array Value}, (∀ p ∈ ps, p < N) → RepL G ds vs → T.size = N → (∀ t, Rep G (tm t) (T.getD t undef)) →
    ((ps.zip vs).foldl (fun tmps (t, a) => tmps.setIfInBounds t a) T).size = N ∧ ∀ t, Rep G (putL tm ps ds t) (((ps.zip vs).foldl (fun tmps (t, a) => tmps.setIfInBounds t a) T).getD t undef)
  | [], ds, vs, tm, T, _, _, hT, h => ⟨by simpa using hT, fun t => by simpa [putL] using h t⟩
  | p :: ps, [], vs, tm, T, _, hr, hT, h => by
    simp only [RepL] at hr
    subst hr
    exact ⟨by simpa using hT, fun t => by simpa [putL] using h t⟩
  | p :: ps, d :: ds, vs, tm, T, hp, hr, hT, h => by
    simp only [RepL] at hr
    obtain ⟨u, us, rfl, h1, h2⟩ := hr
    simp only [List.zip_cons_cons, List.foldl_cons, putL]
    refine putL_rel (fun q hq => hp q (List.mem_cons_of_mem _ hq)) h2 (by simpa using hT) fun t => ?_
    have hlt := hp p List.mem_cons_self
    by_cases e : p = t
    · subst e
      have e1 : upd tm p d p = d := by simp [upd]
      have e2 : (T.setIfInBounds p u).getD p undef = u := by simp [hT, hlt]
      rw [e1, e2]; exact h1
    · have e0 : Nat.beq p t = false := by cases h' : Nat.beq p t with
        | false => rfl
        | true => exact absurd (Nat.eq_of_beq_eq_true h') e
      have e1 : upd tm p d t = tm t := by simp [upd, e0]
      have e2 : (T.setIfInBounds p u).getD t undef = T.getD t undef := by simp [Array.getElem?_setIfInBounds_ne e]
      rw [e1, e2]; exact h t

/-- How a record stands behind a round that ends so; its jump. -/
def lsOf : AExit → LoopState
  | .normal => .ready
  | _ => .done
def ljOf : AExit → Option Code
  | .normal => none
  | .ret => some .ret
  | .exit i => some (.exit i)
def isNo : AExit → Bool
  | .normal => true
  | _ => false

/-- At a round's end. -/
def rdQ (id N : Nat) (ps : List Nat) (ca cb : Code) (tm0 : Fr) (K : AV → Store → Prop) : AExit → Fr → Store → Prop := fun e _ st =>
  st[id]? = some (.loop N ps ca cb tm0 .busy none) ∧ K (.bool (isNo e)) (st.set id (.loop N ps ca cb tm0 (lsOf e) (ljOf e)))
/-- Behind the assignments to the loop's left sides. -/
def rdA (P : Program) (E : Glob) (id N : Nat) (mu : Nat → Bool) (ps : List Nat) (ca cb : Code) (tm0 : Fr) (b : ACode) (K : AV → Store → Prop) : AExit → Fr → Store → Prop
  | .normal, tm, st => st[id]? = some (.loop N ps ca cb tm0 .ready none) ∧ XS P E N mu b (rdQ id N ps ca cb tm0 K) tm (st.set id (.loop N ps ca cb tm0 .busy none))
  | _, _, _ => False

theorem xyield {P : Program} {E : Glob} {id N : Nat} {mu : Nat → Bool} {ps : List Nat} {ca cb : Code} {a b : ACode} {tm0 : Fr} {ds : List AV} {st : Store} {K : AV → Store → Prop}
    (hin : inR mu = true) (hst : st[id]? = some (.loop N ps ca cb tm0 .ready none)) (hl : ds.length = ps.length) (hp : ∀ p ∈ ps, p < N) (h1 : compC P N mu ca = some a) (h2 : compC P N mu cb = some b)
    (h : XS P E N mu a (rdA P E id N mu ps ca cb tm0 b K) (putL tm0 ps ds) st) : XYield P E id ds st K := by
  intro G w vs hr hs
  have hid : id < G.slots.length := by rw [hs.len]; exact lt_of_getElem? hst
  have hsl : G.slots[id]? = some G.slots[id] := by simp [hid]
  have hob := hs.obj id _ _ hst hsl
  generalize G.slots[id] = s at hob hsl
  cases s <;> simp only [ObjRel] at hob
  rename_i l
  obtain ⟨⟨fn, T, D, k1, k2, k3⟩, k4⟩ := hob
  refine ⟨l, _, hsl, k1, by simp [repL_length hr, hl], ?_⟩
  obtain ⟨q1, q2⟩ := putL_rel hp hr k2 k3
  have hfold : ((ps.toArray.zip vs.toArray).foldl (fun tmps (t, a) => tmps.setIfInBounds t a) T) = (ps.zip vs).foldl (fun tmps (t, a) => tmps.setIfInBounds t a) T := by simp
  have noR : inR mu = false → some l = none := fun e => by rw [hin] at e; cases e
  have hrel : Rel 0 N E G (putL tm0 ps ds) st { tmps := (ps.toArray.zip vs.toArray).foldl (fun tmps (t, a) => tmps.setIfInBounds t a) T, defers := [] } w := by
    rw [hfold]
    exact ⟨q1, Marks.nil G (Nat.zero_le _), q2, hs⟩
  refine roundIn_of_wpIn (F := Fence.wide) trivial ?_
  refine wpIn_mono (F := fen (some l)) (h ca h1 0 (some l) G _ w noR hrel) fun e a' w' ⟨x, tm', st', G', he, hr', hext, hq⟩ => ?_
  rcases he.cases with ⟨rfl, rfl⟩ | ⟨i, rfl, rfl⟩ | ⟨rfl, rfl⟩
  · obtain ⟨hst', hb⟩ := hq
    have hb' : G'.slots[id]? = some (.box l) := by
      rcases hext.g.box _ _ hsl with h' | h'
      · exact h'
      · exact absurd (hr'.st.obj _ _ _ hst' h') (by simp [ObjRel])
    obtain ⟨r, m1, m2, m3, m4, m5, m6, m7, m8, s1, e1⟩ := loop_put (s' := .busy) (p' := none) hr'.st hst' hb'
    have erun := run_beginRound (P := P) m1 m2
    have ew : w'.putObj l (.loop { r with state := .busy }) = w'.putObj l (.loop { r with state := .busy, pending := none }) := by rw [← m3]
    refine ⟨_, erun, ?_⟩
    rw [ew]
    have hrel2 : Rel 0 N E _ tm' (st'.set id (.loop N ps ca cb tm0 .busy none)) a' (w'.putObj l (.loop { r with state := .busy, pending := none })) := ⟨hr'.size, hr'.defers.ext e1, hr'.fr.mono e1.g, s1⟩
    refine wpIn_mono (F := fen (some l)) (hb cb h2 0 (some l) _ a' _ noR hrel2) fun e2 a2 w2 ⟨x2, tm2, st2, G2, he2, hr2, hext2, hst2, hK⟩ => ?_
    have hsl1 : (G'.slots.set id (.box l))[id]? = some (.box l) := List.getElem?_set_self (lt_of_getElem? hb')
    have hb2 : G2.slots[id]? = some (.box l) := by
      rcases hext2.g.box _ _ hsl1 with h' | h'
      · exact h'
      · exact absurd (hr2.st.obj _ _ _ hst2 h') (by simp [ObjRel])
    have fin : ∀ (j : Option Code) (s : LoopState), s = (if j.isNone then LoopState.ready else .done) → K (.bool j.isNone) (st2.set id (.loop N ps ca cb tm0 s j)) →
        ∃ v w3, (Instr.endRound l j).run P w2 = .ok v w3 ∧ ∃ u x st' G', Ending.returned v = .returned u ∧ Rep G' x u ∧ StoreRel E G' st' w3 ∧ Ext G w G' w3 ∧ K x st' := by
      intro j s hs' hK'
      obtain ⟨r2, n1, n2, n3, n4, n5, n6, n7, n8, s3, e3⟩ := loop_put (s' := s) (p' := j) hr2.st hst2 hb2
      subst hs'
      exact ⟨_, _, run_endRound j n1, _, _, _, _, rfl, by simp only [Rep], s3, hext.trans (e1.trans (hext2.trans e3)), hK'⟩
    rcases he2.cases with ⟨rfl, rfl⟩ | ⟨i, rfl, rfl⟩ | ⟨rfl, rfl⟩
    · exact fin none .ready rfl hK
    · exact fin (some (.exit i)) .done rfl hK
    · exact fin (some .ret) .done rfl hK
  · exact hq.elim
  · exact hq.elim

/-- The walk of a round's body, as a function's walk. -/
def cR (P : Program) (E : Glob) (N : Nat) (mu : List Nat) (fin : AExit → Fr → Store → Prop) : Cx := ⟨P, E, N, rnd (muL mu), [], fun _ _ => True, fin⟩
theorem bR' {P : Program} {E : Glob} {id N : Nat} {mu : List Nat} {ps : List Nat} {ca cb : Code} {a b : ACode} {tm0 : Fr} {ds : List AV} {st : Store} {L : List Asn} {K : AV → Store → Prop}
    (h1 : compC P N (rnd (muL mu)) ca = some a) (h2 : compC P N (rnd (muL mu)) cb = some b) (hs : SH st (pt id (.loop N ps ca cb tm0 .ready none) :: L)) (hl : Nat.beq ds.length ps.length = true) (hp : ps.all (fun p => Nat.blt p N) = true)
    (ha : ∀ st, SH st (pt id (.loop N ps ca cb tm0 .busy none) :: L) → True)
    (h : W (cR P E N mu (rdA P E id N (rnd (muL mu)) ps ca cb tm0 b K)) [.code a] (putL tm0 ps ds) st) : XYield P E id ds st K := by
  refine xyield (inR_rnd _) hs.at0 (Nat.eq_of_beq_eq_true hl) (fun p hp' => ?_) h1 h2 (W.code.1 h)
  have := List.all_eq_true.1 hp p hp'
  exact Nat.le_of_ble_eq_true this
/-- The assignments are done: the body. -/
theorem rdW {P : Program} {E : Glob} {id N : Nat} {mu : List Nat} {ps : List Nat} {ca cb : Code} {b : ACode} {tm tm0 : Fr} {st : Store} {L : List Asn} {K : AV → Store → Prop}
    (hs : SH st (pt id (.loop N ps ca cb tm0 .ready none) :: L))
    (h : ∀ st, SH st (pt id (.loop N ps ca cb tm0 .busy none) :: L) → W (cR P E N mu (rdQ id N ps ca cb tm0 K)) [.code b] tm st) : W (cR P E N mu (rdA P E id N (rnd (muL mu)) ps ca cb tm0 b K)) [] tm st :=
  ⟨hs.at0, W.code.1 (h _ (hs.set0 _))⟩
/-- A round's ends. -/
theorem rdN {P : Program} {E : Glob} {id N : Nat} {mu : List Nat} {ps : List Nat} {ca cb : Code} {tm tm0 : Fr} {st : Store} {L : List Asn} {K : AV → Store → Prop}
    (hs : SH st (pt id (.loop N ps ca cb tm0 .busy none) :: L)) (hK : ∀ st, SH st (pt id (.loop N ps ca cb tm0 .ready none) :: L) → K (.bool true) st) : W (cR P E N mu (rdQ id N ps ca cb tm0 K)) [] tm st :=
  ⟨hs.at0, hK _ (hs.set0 _)⟩
theorem rdR {P : Program} {E : Glob} {id N : Nat} {mu : List Nat} {ps : List Nat} {ca cb : Code} {tm tm0 : Fr} {st : Store} {L : List Asn} {K : AV → Store → Prop} {k : List KJ}
    (hs : SH st (pt id (.loop N ps ca cb tm0 .busy none) :: L)) (hK : ∀ st, SH st (pt id (.loop N ps ca cb tm0 .done (some .ret)) :: L) → K (.bool false) st) : W (cR P E N mu (rdQ id N ps ca cb tm0 K)) (.code .ret :: k) tm st :=
  rfin ⟨hs.at0, hK _ (hs.set0 _)⟩
theorem rdX {P : Program} {E : Glob} {id N i : Nat} {mu : List Nat} {ps : List Nat} {ca cb : Code} {tm tm0 : Fr} {st : Store} {L : List Asn} {K : AV → Store → Prop} {k : List KJ} (hd : jdrop k i = none)
    (hs : SH st (pt id (.loop N ps ca cb tm0 .busy none) :: L)) (hK : ∀ st, SH st (pt id (.loop N ps ca cb tm0 .done (some (.exit i))) :: L) → K (.bool false) st) : W (cR P E N mu (rdQ id N ps ca cb tm0 K)) (.code (.exit i) :: k) tm st :=
  xfin hd ⟨hs.at0, hK _ (hs.set0 _)⟩

/-! ### The statement -/
theorem compC_range {P : Program} {N : Nat} {mu : Nat → Bool} {c : Code} {z : AX} {ps : List Nat} {x y : ACode} (h : compC P N mu c = some (.range z ps x y)) : ∃ g qs ca cb, c = .rangeFunc g qs ca cb ∧ cX g = some z ∧ qs.toList = ps ∧ compC P N (rnd mu) ca = some x ∧ compC P N (rnd mu) cb = some y := by
  cases c <;> try simp only [compC, reduceCtorEq] at h
  case seq => split at h <;> cases h
  case cond => split at h <;> cases h
  case block => simp only [Option.map_eq_some_iff] at h; obtain ⟨_, _, h⟩ := h; cases h
  case loop => simp only [Option.map_eq_some_iff] at h; obtain ⟨_, _, h⟩ := h; cases h
  case region id ops d =>
    cases d with
    | false => simp only [compC] at h; split at h <;> cases h
    | true =>
      simp only [compC, Option.some.injEq] at h
      rcases compReg_is P N mu ops with e | ⟨_, _, _, _, _, e⟩
      · rw [e] at h; cases h
      · rw [e] at h; cases h
  case rangeFunc g qs ca cb =>
    split at h
    · rename_i z' x' y' hz h1 h2
      split at h
      · cases h; exact ⟨g, qs, ca, cb, rfl, hz, rfl, h1, h2⟩
      · cases h
    · cases h
  all_goals cases h

instance (cs : List AV) [h : DtL cs] : DtV (.dptr cs) := ⟨⟨by simp only [AV.data]; exact h.h.1, by simp only [AV.strip]; rw [h.h.2]⟩⟩
instance (f : FuncId) (cs : List AV) [h : DtL cs] : DtV (.fn f cs) := ⟨⟨by simp only [AV.data]; exact h.h.1, by simp only [AV.strip]; rw [h.h.2]⟩⟩
instance : DtV .nilfn := ⟨⟨rfl, rfl⟩⟩
/-- How a loop's record stands, by the number of the way in which a round was left. -/
def lsW : Nat → LoopState
  | 0 => .ready
  | _ + 1 => .done
def ljW : List Code → Nat → Option Code
  | _, 0 => none
  | [], _ + 1 => none
  | c :: _, 1 => some c
  | _ :: l, n + 2 => ljW l (n + 1)
theorem ni {p : Prop} [Decidable p] {α : Type} {A B : Option α} {r : α} {Q : Prop} (hF : (if p then A else B) = some r) (h1 : p → A = some r → Q) (h2 : ¬ p → B = some r → Q) : Q := by
  by_cases h : p
  · rw [if_pos h] at hF; exact h1 h hF
  · rw [if_neg h] at hF; exact h2 h hF
theorem putL1 {tm : Fr} {l : List (Nat × AV)} (hf : Frm tm l) (p : Nat) (v : AV) : putL tm [p] [v] = updL tm ((p, v) :: l) := by
  show upd tm p v = upd (updL tm l) p v
  rw [Frm.eq hf]
theorem putL2 {tm : Fr} {l : List (Nat × AV)} (hf : Frm tm l) (p q : Nat) (v w : AV) : putL tm [p, q] [v, w] = updL tm ((q, w) :: (p, v) :: l) := by
  show upd (upd tm p v) q w = upd (upd (updL tm l) p v) q w
  rw [Frm.eq hf]
theorem putL0 {tm : Fr} {l : List (Nat × AV)} (hf : Frm tm l) : putL tm [] [] = updL tm l := (Frm.eq hf).symm
section
variable {X : Cx} {k : List KJ} {tm : Fr} {fr : List (Nat × AV)} {st : Store} {l : List AOp} {d : Nat} {x y i a : AX} {L L' : List Asn}

/-- What is asked where the function that was ranged over has come back. -/
def RgQ (X : Cx) (k : List KJ) (tm : Fr) (id : Nat) (ps : List Nat) (ca cb : Code) (st : Store) : Prop :=
  ∃ s p, st[id]? = some (.loop X.N ps ca cb tm s p) ∧ s ≠ .busy ∧ (match p with
    | none => wQ X k .normal tm (st.set id .dead)
    | some .ret => wQ X k .ret tm (st.set id .dead)
    | some (.exit i) => wQ X k (.exit i) tm (st.set id .dead)
    | _ => False)
theorem rgN {id : Nat} {ps : List Nat} {ca cb : Code} {s : LoopState} (hs : SH st (pt id (.loop X.N ps ca cb tm s none) :: L)) (hb : s ≠ .busy) (h : ∀ st, SH st L → W X k tm st) : RgQ X k tm id ps ca cb st := ⟨s, none, hs.at0, hb, h _ hs.kill⟩
theorem rgX {id i : Nat} {ps : List Nat} {ca cb : Code} {s : LoopState} {k' : List KJ} (hd : jdrop k i = some k') (hs : SH st (pt id (.loop X.N ps ca cb tm s (some (.exit i))) :: L)) (hb : s ≠ .busy) (h : ∀ st, SH st L → W X k' tm st) : RgQ X k tm id ps ca cb st := ⟨s, some (.exit i), hs.at0, hb, W.exit hd (h _ hs.kill)⟩
theorem rgR {id : Nat} {ps : List Nat} {ca cb : Code} {s : LoopState} (hX : ∀ tm st, X.fin .normal tm st = X.fin .ret tm st) (hs : SH st (pt id (.loop X.N ps ca cb tm s (some .ret)) :: L)) (hb : s ≠ .busy) (h : ∀ st, SH st L → W X [] tm st) : RgQ X k tm id ps ca cb st :=
  ⟨s, some .ret, hs.at0, hb, by
    show wQ X k .ret tm _
    rw [wQ_ret, ← hX]
    exact h _ hs.kill⟩

theorem rg {N : Nat} {z : AX} {ps : List Nat} {a b : ACode} {f : FuncId} {caps : List AV} (hN : X.N = N) (hs : SH st L) (hz : (updL tm fr).x z = .fn f caps) (hc : callable X.P f = true)
    (h : ∀ (ca cb : Code) (st : Store) (id : Nat), compC X.P X.N (rnd X.mu) ca = some a → compC X.P X.N (rnd X.mu) cb = some b → SH st (pt id (.loop N ps ca cb (updL tm fr) .ready none) :: L) → XCall X.P X.E f (.yld id :: caps) st fun _ st => RgQ X k (updL tm fr) id ps ca cb st) : W X (.code (.range z ps a b) :: k) (updL tm fr) st := by
  subst hN
  rw [W.code]
  refine XS.of ?_
  simp only [xCode, hz]
  refine ⟨hc, fun ca cb h1 h2 => (h ca cb _ _ h1 h2 (hs.push _)).mono fun v st' ⟨s, p, q1, q2, q3⟩ => ⟨s, p, q1, q2, ?_⟩⟩
  cases p with
  | none => exact q3
  | some c => cases c <;> exact q3

/-- A slice that an object owns is put into its place. -/
theorem so {id off : Nat} {cs cs' : List AV} {v : AV} (hs : SH st L) (j : Nat) (hp : (updL tm fr).x a = .ptr id off) (hj : L[j]? = some (pt id (.cells cs))) (hx : (updL tm fr).x x = v) (hv : v.cells = [v] ∧ v.one = true) (hb : Nat.ble (off + 1) cs.length = true) (hc : cs.take off ++ [v] ++ cs.drop (off + 1) = cs')
    (hL : setL L j (pt id (.cells cs')) = some L') (hk : ∀ st, SH st L' → W X (.ops l :: k) (updL tm fr) st) : W X (.ops (⟨.none, .none, .plain (.store 1 a x)⟩ :: l) :: k) (updL tm fr) st := by
  refine sr hs j hp hj ?_ (by rw [hx, hv.1]; exact hc) hL hk
  rw [hx]
  simp only [stOk, hv.1, List.all_cons, hv.2, List.all_nil, Bool.and_true, hb]
  rfl
theorem rvV_c {α : Type} {es : Nat} {o : Sl α} {id : Nat} : (rvV es o id).cells = [rvV es o id] ∧ (rvV es o id).one = true := by cases o <;> exact ⟨rfl, rfl⟩
theorem ownV_c {α : Type} {es : Nat} {f : α → AV} {o : Sl α} {id : Nat} : (ownV es f o id).cells = [ownV es f o id] ∧ (ownV es f o id).one = true := by cases o <;> exact ⟨rfl, rfl⟩
/-- Yield is called. -/
theorem cy {f : AX} {id : Nat} {xs : List AX} {ds : List AV} (hf : (updL tm fr).x f = .yld id) (ha : xs.map (updL tm fr).x = ds) (h : XYield X.P X.E id ds st fun v st => W X (.ops l :: k) (updL tm ((d, v) :: fr)) st) : W X (.ops (⟨.some d, .none, .callv f xs⟩ :: l) :: k) (updL tm fr) st := by
  subst ha
  rw [W.ops, xOps_callv, hf, XCV_yld]
  refine h.mono fun v st' hw => ?_
  rw [put_upd]; exact W.ops.1 hw
theorem cy0 {f : AX} {id : Nat} {xs : List AX} {ds : List AV} (hf : (updL tm fr).x f = .yld id) (ha : xs.map (updL tm fr).x = ds) (h : XYield X.P X.E id ds st fun _ st => W X (.ops l :: k) (updL tm fr) st) : W X (.ops (⟨.none, .none, .callv f xs⟩ :: l) :: k) (updL tm fr) st := by
  subst ha
  rw [W.ops, xOps_callv, hf, XCV_yld]
  refine h.mono fun v st' hw => ?_
  rw [put_none]; exact W.ops.1 hw

/-- A function value that is handed plain data alone. -/
theorem cvd {f : AX} {g : FuncId} {caps : List AV} {xs : List AX} {ds : List AV} {v : AV} (hf : (updL tm fr).x f = .fn g caps) (hc : callable X.P g = true) (h : DFun X.P X.E g ds v) [hd : DtL ds] (ha : xs.map (updL tm fr).x ++ caps = ds) (hk : W X (.ops l :: k) (updL tm ((d, v) :: fr)) st) : W X (.ops (⟨.some d, .none, .callv f xs⟩ :: l) :: k) (updL tm fr) st := by
  rw [W.ops] at hk ⊢
  rw [xOps_callv, hf, XCV_fn]
  exact ⟨hc, xc_fun h (by rw [ha]; exact hd.h.1) (by rw [ha]; exact hd.h.2) (by rw [put_upd]; exact hk)⟩
/-- A box that is never written to again. -/
theorem e_boxD {E : Glob} {n : Nat} {cs : List AV} (h : (tm.x x).cells = cs) (hn : Nat.beq cs.length n = true) (h1 : cs.all AV.one = true) : evalAI E tm st (.boxD n x) = some (.dptr cs, st) := by
  subst h
  simp only [evalAI]
  rw [if_pos ⟨Nat.eq_of_beq_eq_true hn, h1⟩]
end

theorem e_bslD {α : Type} {E : Glob} {tm : Fr} {st : Store} {es len : Nat} {ag : Bool} {zero : List AV} {parts : List (Nat × Nat × AX)} {f : α → AV} (m : List α) (hp : fitP (len * es) parts tm = true) (hf : (chunks es len (fillA (rep0 zero len) (valP parts tm))).map (ofCells ag) = m.map f)
    (h1 : (fillA (rep0 zero len) (valP parts tm)).all AV.one = true) : evalAI E tm st (.bslD es len ag zero parts) = some (slV es f (some m), st) := by
  simp only [evalAI, fitP_ok hp]
  rw [if_pos h1, hf]; rfl

theorem e_bslG {α : Type} {E : Glob} {tm : Fr} {st : Store} {es len : Nat} {ag : Bool} {zero : List AV} {parts : List (Nat × Nat × AX)} {ps : List (Nat × List AV)} {f : α → AV} {c : α → List AV} (m : List α)
    (hp : partsOk (len * es) parts tm = some ps) (hps : ps = plc es 0 (m.map c)) (hz : zero.length = es) (hc : ∀ x, (c x).length = es) (h1 : ∀ x, (c x).all AV.one = true) (hf : ∀ x, ofCells ag (c x) = f x) (hl : m.length = len) : evalAI E tm st (.bslD es len ag zero parts) = some (slV es f (some m), st) := by
  subst hl
  have e1 : fillA (rep0 zero m.length) ps = m.flatMap c := by
    have := fill_plc hz (m.map c) [] (by intro y hy; obtain ⟨x, _, rfl⟩ := List.mem_map.1 hy; exact hc x)
    rw [List.length_map] at this
    rw [hps]
    simpa [List.flatMap_def] using this
  simp only [evalAI, hp]
  have e2 : (m.flatMap c).all AV.one = true := by
    simp only [List.all_flatMap]
    exact List.all_eq_true.2 fun z _ => h1 z
  rw [e1, if_pos e2, chunks_flat hc hf m]
  rfl

/-! ### A slice that an object owns, taken as plain data -/
theorem frz_cell {E : Glob} {G : Gh} {st : Store} {w : World} {id1 id2 off es : Nat} {cs : List AV} {α : Type} {c : α → List AV} {g : α → AV} {l : List α} (hs : StoreRel E G st w) (h1 : st[id1]? = some (.cells cs)) (hk : cs[off]? = some (.row id2 es 0 l.length)) (h2 : st[id2]? = some (.cells (l.flatMap c)))
    (hes : 0 < es) (hc : ∀ x, (c x).length = es) (ha : ∀ x, (c x).all AV.one = true) (hf : ∀ x, ofCells (!(es == 1)) (c x) = g x) (hg : ∀ x, DS (g x) (g x)) (hne : id1 ≠ id2) :
    ∃ G', StoreRel E G' ((st.set id2 AObj.dead ++ [AObj.tail l.length]).set id1 (.cells (cs.set off (slV es g (some l))))) w ∧ Ext G w G' w := by
  have hid1 : id1 < G.slots.length := by rw [hs.len]; exact lt_of_getElem? h1
  have hsl : G.slots[id1]? = some G.slots[id1] := by simp [hid1]
  have hob := hs.obj id1 _ _ h1 hsl
  generalize G.slots[id1] = s at hob hsl
  cases s <;> simp only [ObjRel] at hob
  rename_i b
  obtain ⟨⟨arr, e, fz, p1, p2, p3, p4⟩, p5⟩ := hob
  obtain ⟨u, hu, hru⟩ := repL_get p3 off _ hk
  have hl : (l.flatMap c).length = l.length * es := flat_len hc l
  have hall : (l.flatMap c).all AV.one = true := by
    simp only [List.all_flatMap]; exact List.all_eq_true.2 fun z _ => ha z
  obtain ⟨G2, s2, x2, r2⟩ := freeze_row hs hru h2 hl hes hall
  have e2 : (chunks es l.length (l.flatMap c)).map (ofCells (!(es == 1))) = l.map g := chunks_flat hc hf l
  rw [e2] at r2
  have hd : DS (.sl es (l.map g) (some st.length)) (slV es g (some l)) := ds_rd hg (.inr ⟨l, some st.length, rfl, rfl⟩)
  have r3 := strip_rep (G := G2) (G' := G2) (fun _ _ _ h => h) hd.1 r2
  rw [hd.2] at r3
  have hst1 : (st.set id2 AObj.dead ++ [AObj.tail l.length])[id1]? = some (.cells cs) := by
    rw [List.getElem?_append_left (by rw [List.length_set]; exact lt_of_getElem? h1), List.getElem?_set_ne hne.symm]; exact h1
  have hb2 : G2.slots[id1]? = some (.box b) := by
    rcases x2.g.box _ _ hsl with h' | h'
    · exact h'
    · exact absurd (s2.obj _ _ _ hst1 h') (by simp [ObjRel])
  refine ⟨G2, re_obj s2 hb2 ?_, x2⟩
  obtain ⟨⟨arr', e', fz', q1, q2, q3, q4⟩, q5⟩ := s2.obj _ _ _ hst1 hb2
  rw [p1] at q1; cases q1
  refine ⟨⟨arr, e, fz, p1, by simpa using p2, ?_, p4⟩, q5⟩
  have := repL_set off q3 r3
  rw [List.length_set]
  have e3 : (arr.toList.take cs.length).set off u = arr.toList.take cs.length := by
    refine List.ext_getElem? fun i => ?_
    by_cases e : off = i
    · subst e; rw [List.getElem?_set_self (lt_of_getElem? hu), hu]
    · rw [List.getElem?_set_ne e]
  rw [e3] at this; exact this
theorem XS.same {P : Program} {E : Glob} {N : Nat} {mu : Nat → Bool} {b : ACode} {Q : AExit → Fr → Store → Prop} {tm : Fr} {st st' : Store} (hs : ∀ G w, StoreRel E G st w → ∃ G', StoreRel E G' st' w ∧ Ext G w G' w) (h : XS P E N mu b Q tm st') : XS P E N mu b Q tm st := fun c hc B ro G a w hro hr => by
  obtain ⟨G', s', x'⟩ := hs G w hr.st
  exact wpIn_mono (h c hc B ro G' a w hro (hr.ext x' s')) fun e a' w' ⟨x, tm', st2, G2, q1, q2, q3, q4⟩ => ⟨x, tm', st2, G2, q1, q2, x'.trans q3, q4⟩
theorem frz {X : Cx} {k : List KJ} {tm : Fr} {st : Store} {x : ACode} {L : List Asn} {id1 id2 off es : Nat} {cs cs' : List AV} {α : Type} {c : α → List AV} {g : α → AV} [hg : DtF g] {o : Sl α} (hs : SH st (pt id1 (.cells cs) :: rvA c id2 o :: L)) (hk : cs[off]? = some (rvV es o id2)) (hc' : cs.set off (slV es g o) = cs')
    (hes : Nat.ble 1 es = true) (hc : ∀ x, (c x).length = es) (h1 : ∀ x, (c x).all AV.one = true) (hf : ∀ x, ofCells (!(es == 1)) (c x) = g x) (h : ∀ st, SH st (pt id1 (.cells cs') :: L) → W X (.code x :: k) tm st) : W X (.code x :: k) tm st := by
  subst hc'
  cases o with
  | none =>
    refine h st ?_
    have e : cs.set off (slV es g none) = cs := by
      refine List.ext_getElem? fun i => ?_
      by_cases e : off = i
      · subst e; rw [List.getElem?_set_self (lt_of_getElem? hk), hk]; rfl
      · rw [List.getElem?_set_ne e]
    rw [e]
    obtain ⟨a, b, q1, ⟨a', b', q2, q3, q4, q5⟩, q6, q7⟩ := hs
    refine ⟨a, b, q1, ?_, q6, q7⟩
    refine starL_congr (fun i => ?_) q3
    rw [q5 i, PH.or_r (q2 i)]
  | some l =>
    have hne : id1 ≠ id2 := by
      obtain ⟨a, b, q1, ⟨a', b', q2, q3, q4, q5⟩, q6, q7⟩ := hs
      intro e
      subst e
      have e1 : a id1 = some (.cells cs) := by rw [q1 id1, if_pos rfl]
      have e2 : b id1 = some (.cells (l.flatMap c)) := by rw [q5 id1]; exact PH.or_l (by rw [q2 id1, if_pos rfl])
      rcases q6 id1 with e3 | e3
      · rw [e1] at e3; cases e3
      · rw [e2] at e3; cases e3
    have g1 : st[id1]? = some (.cells cs) := hs.g 0 rfl
    have g2 : st[id2]? = some (.cells (l.flatMap c)) := hs.g 1 rfl
    have hlt1 := lt_of_getElem? g1
    have h3 : SH (st.set id2 AObj.dead) (pt id1 (.cells cs) :: L) := by
      have := SH.set hs (j := 1) (id := id2) rfl .dead
      exact this.p 2 [0] rfl
    have h4 : SH (st.set id2 AObj.dead ++ [AObj.tail l.length]) (pt id1 (.cells cs) :: L) := (h3.push (.tail l.length)).tail
    have h5 := h4.set0 (.cells (cs.set off (slV es g (some l))))
    have h6 := h _ h5
    rw [W.code] at h6 ⊢
    exact XS.same (fun G w hr => frz_cell hr g1 hk g2 (Nat.le_of_ble_eq_true hes) hc h1 hf hg.h hne) h6
/-- The token of a slice that an object owns is given up. -/
theorem frzO {X : Cx} {k : List KJ} {tm : Fr} {st : Store} {x : ACode} {L : List Asn} {id1 id2 off es : Nat} {cs cs' : List AV} {α : Type} {g : α → AV} [hg : DtF g] {o : Sl α} (hs : SH st (pt id1 (.cells cs) :: ownA id2 o :: L)) (hk : cs[off]? = some (ownV es g o id2)) (hc' : cs.set off (slV es g o) = cs')
    (h : ∀ st, SH st (pt id1 (.cells cs') :: L) → W X (.code x :: k) tm st) : W X (.code x :: k) tm st := by
  subst hc'
  have g1 : st[id1]? = some (.cells cs) := hs.g 0 rfl
  have h1 : SH st (pt id1 (.cells cs) :: L) := by
    obtain ⟨a, b, q1, ⟨a', b', q2, q3, q4, q5⟩, q6, q7⟩ := hs
    exact ⟨a, b, q1, starL_congr (fun i => (PH.or_comm q4 i).symm.trans (q5 i).symm) (starL_mono q4.symm q3), q6, q7⟩
  have h6 := h _ (h1.set0 (.cells (cs.set off (slV es g o))))
  rw [W.code] at h6 ⊢
  refine XS.same (fun G w hr => ⟨G, ?_, Ext.refl G w⟩) h6
  have hid1 : id1 < G.slots.length := by rw [hr.len]; exact lt_of_getElem? g1
  have hsl : G.slots[id1]? = some G.slots[id1] := by simp [hid1]
  have hob := hr.obj id1 _ _ g1 hsl
  generalize G.slots[id1] = s at hob hsl
  cases s <;> simp only [ObjRel] at hob
  rename_i b
  obtain ⟨⟨arr, e, fz, p1, p2, p3, p4⟩, p5⟩ := hob
  obtain ⟨u, hu, hru⟩ := repL_get p3 off _ hk
  have hd : DS (ownV es g o id2) (slV es g o) := ds_own hg.h
  have r3 := strip_rep (G := G) (G' := G) (fun _ _ _ h => h) hd.1 hru
  rw [hd.2] at r3
  refine re_obj hr hsl ⟨⟨arr, e, fz, p1, by simpa using p2, ?_, p4⟩, p5⟩
  have := repL_set off p3 r3
  rw [List.length_set]
  have e3 : (arr.toList.take cs.length).set off u = arr.toList.take cs.length := by
    refine List.ext_getElem? fun i => ?_
    by_cases e : off = i
    · subst e; rw [List.getElem?_set_self (lt_of_getElem? hu), hu]
    · rw [List.getElem?_set_ne e]
  rw [e3] at this; exact this
/-- The place of what is stored to in a draw. -/
theorem e_faddrH {E : Glob} {tm : Fr} {st : Store} {x : AX} {id o off : Nat} (hp : tm.x x = .ptr id o) (ho : st[id]? = some .hid) : evalAI E tm st (.faddr off x) = some (.ptr id (o + off), st) := by
  simp only [evalAI, hp, alive, ho, if_true]
theorem e_nilckH {E : Glob} {tm : Fr} {st : Store} {x : AX} {id o : Nat} (hp : tm.x x = .ptr id o) (ho : st[id]? = some .hid) : evalAI E tm st (.nilck x) = some (.ptr id o, st) := by
  simp only [evalAI, hp, alive, ho, if_true]
/-- A table of functions is looked into. -/
theorem e_ixT {E : Glob} {tm : Fr} {st : Store} {x i : AX} {len : Nat} {k : IntKind} {n : Int} {m : Nat} {cs : List AV} {v : AV} (hx : tm.x x = .agg cs) (hi : tm.x i = .int k n) (hn : n = (m : Int)) (hm : Nat.blt m len = true) (hc : cs[m]? = some v) : evalAI E tm st (.ixA1 len 1 x i) = some (v, st) := by
  subst hn
  refine e_ixA1 hx hi ⟨Int.natCast_nonneg _, by exact_mod_cast Nat.le_of_ble_eq_true hm⟩ ?_
  have hlt := (List.getElem?_eq_some_iff.1 hc).1
  refine ⟨cs.take m, cs.drop (m + 1), ?_, ?_, by simp; omega⟩ <;>
  · have e : cs[m] = v := (List.getElem?_eq_some_iff.1 hc).2
    rw [← e]
    simp
end Go.Proofs.Ytjbafmnocopofaa.AW
