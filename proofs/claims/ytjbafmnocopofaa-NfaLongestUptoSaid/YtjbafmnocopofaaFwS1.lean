/-
  What is known of a store, object by object: parts of it that lie apart.
-/
import Derived.Test.YtjbafmnocopofaaFwT3
set_option linter.unusedVariables false
set_option linter.unusedSimpArgs false
set_option linter.unusedVariables false
namespace Go.Proofs.Ytjbafmnocopofaa.AW
open Go

/-- A part of a store. -/
abbrev PH := Nat → Option AObj
/-- What is said of a part. -/
abbrev Asn := PH → Prop
def PH.dj (a b : PH) : Prop := ∀ i, a i = none ∨ b i = none
def PH.or (a b : PH) : PH := fun i => match a i with | some x => some x | none => b i
/-- Parts that lie apart, and whatever else there is. -/
def starL : List Asn → Asn
  | [], _ => True
  | P :: L, h => ∃ a b : PH, P a ∧ starL L b ∧ PH.dj a b ∧ ∀ i, h i = PH.or a b i
def SH (st : Store) (L : List Asn) : Prop := starL L (fun i => st[i]?)
/-- An object at its place. -/
def pt (id : Nat) (o : AObj) : Asn := fun h => ∀ i, h i = if i = id then some o else none
/-- Nothing. -/
def emp : Asn := fun h => ∀ i, h i = none

theorem PH.or_l {a b : PH} {i : Nat} {x : AObj} (h : a i = some x) : PH.or a b i = some x := by simp only [PH.or, h]
theorem PH.or_r {a b : PH} {i : Nat} (h : a i = none) : PH.or a b i = b i := by simp only [PH.or, h]
theorem PH.or_none {a b : PH} {i : Nat} : PH.or a b i = none ↔ a i = none ∧ b i = none := by
  cases h : a i with
  | none => simp [PH.or, h]
  | some x => simp [PH.or, h]
theorem PH.dj.symm {a b : PH} (h : PH.dj a b) : PH.dj b a := fun i => (h i).symm
theorem PH.or_comm {a b : PH} (h : PH.dj a b) (i : Nat) : PH.or a b i = PH.or b a i := by
  rcases h i with e | e
  · rw [PH.or_r e]
    cases h2 : b i with
    | none => exact (PH.or_none.2 ⟨h2, e⟩).symm
    | some x => exact (PH.or_l h2).symm
  · rw [PH.or_r e]
    cases h2 : a i with
    | none => exact PH.or_none.2 ⟨h2, e⟩
    | some x => exact PH.or_l h2
theorem PH.or_assoc (a b c : PH) (i : Nat) : PH.or (PH.or a b) c i = PH.or a (PH.or b c) i := by
  cases h : a i with
  | none =>
    rw [PH.or_r h]
    cases h2 : b i with
    | none => rw [PH.or_r (PH.or_none.2 ⟨h, h2⟩), PH.or_r h2]
    | some x => rw [PH.or_l (x := x) (by rw [PH.or_r h]; exact h2), PH.or_l h2]
  | some x => rw [PH.or_l (x := x) (PH.or_l h), PH.or_l h]
theorem PH.dj_or {a b c : PH} : PH.dj a (PH.or b c) ↔ PH.dj a b ∧ PH.dj a c := by
  constructor
  · intro h
    refine ⟨fun i => ?_, fun i => ?_⟩
    · rcases h i with e | e
      · exact .inl e
      · exact .inr (PH.or_none.1 e).1
    · rcases h i with e | e
      · exact .inl e
      · exact .inr (PH.or_none.1 e).2
  · intro ⟨h1, h2⟩ i
    rcases h1 i with e | e
    · exact .inl e
    · rcases h2 i with e' | e'
      · exact .inl e'
      · exact .inr (PH.or_none.2 ⟨e, e'⟩)

theorem starL_congr : ∀ {L : List Asn} {h h' : PH}, (∀ i, h i = h' i) → starL L h → starL L h'
  | [], _, _, _, _ => trivial
  | P :: L, h, h', e, ⟨a, b, h1, h2, h3, h4⟩ => ⟨a, b, h1, h2, h3, fun i => (e i).symm.trans (h4 i)⟩
theorem starL_mono : ∀ {L : List Asn} {a b : PH}, PH.dj a b → starL L a → starL L (PH.or a b)
  | [], _, _, _, _ => trivial
  | P :: L, a, b, hd, ⟨p, q, h1, h2, h3, h4⟩ => by
    have hq : PH.dj p b ∧ PH.dj q b := by
      refine ⟨fun i => ?_, fun i => ?_⟩
      · rcases hd i with e | e
        · rw [h4 i] at e; exact .inl (PH.or_none.1 e).1
        · exact .inr e
      · rcases hd i with e | e
        · rw [h4 i] at e; exact .inl (PH.or_none.1 e).2
        · exact .inr e
    refine ⟨p, PH.or q b, h1, starL_mono hq.2 h2, PH.dj_or.2 ⟨h3, hq.1⟩, fun i => ?_⟩
    rw [← PH.or_assoc]
    simp only [PH.or, h4 i]
/-- One of the parts, and the others. -/
theorem starL_at : ∀ {j : Nat} {L : List Asn} {h : PH} {P : Asn}, L[j]? = some P → starL L h → ∃ a b, P a ∧ starL (L.eraseIdx j) b ∧ PH.dj a b ∧ ∀ i, h i = PH.or a b i
  | _, [], _, _, hj, _ => by simp at hj
  | 0, Q :: L, h, P, hj, ⟨a, b, h1, h2, h3, h4⟩ => by
    simp at hj; subst hj
    exact ⟨a, b, h1, h2, h3, h4⟩
  | j + 1, Q :: L, h, P, hj, ⟨a, b, h1, h2, h3, h4⟩ => by
    simp at hj
    obtain ⟨p, q, k1, k2, k3, k4⟩ := starL_at hj h2
    have hap : PH.dj a p ∧ PH.dj a q := PH.dj_or.1 (fun i => by rw [← k4 i]; exact h3 i)
    refine ⟨p, PH.or a q, k1, ⟨a, q, h1, k2, hap.2, fun i => rfl⟩, PH.dj_or.2 ⟨hap.1.symm, k3⟩, fun i => ?_⟩
    rw [h4 i, ← PH.or_assoc]
    have e1 : PH.or a b i = PH.or a (PH.or p q) i := by simp only [PH.or, k4 i]
    rw [e1, ← PH.or_assoc]
    have e2 := PH.or_comm hap.1 i
    simp only [PH.or] at e2 ⊢
    rw [e2]
theorem starL_put : ∀ {j : Nat} {L : List Asn} {a b : PH} {P : Asn}, j < L.length → P a → starL (L.eraseIdx j) b → PH.dj a b → starL (L.set j P) (PH.or a b)
  | _, [], _, _, _, hj, _, _, _ => by simp at hj
  | 0, Q :: L, a, b, P, _, hp, hl, hd => ⟨a, b, hp, hl, hd, fun _ => rfl⟩
  | j + 1, Q :: L, a, b, P, hj, hp, ⟨p, q, h1, h2, h3, h4⟩, hd => by
    have hap : PH.dj a p ∧ PH.dj a q := PH.dj_or.1 (fun i => by rw [← h4 i]; exact hd i)
    have hj' : j < L.length := by simpa using hj
    refine ⟨p, PH.or a q, h1, starL_put hj' hp h2 hap.2, PH.dj_or.2 ⟨hap.1.symm, h3⟩, fun i => ?_⟩
    have e1 : PH.or a b i = PH.or a (PH.or p q) i := by simp only [PH.or, h4 i]
    rw [e1, ← PH.or_assoc, ← PH.or_assoc]
    have e2 := PH.or_comm hap.1 i
    simp only [PH.or] at e2 ⊢
    rw [e2]

def Asn.T : Asn := fun _ => True
/-- Some of the first n parts, in another order; and all behind these. -/
def selP : List Nat → List Asn → List Asn
  | [], _ => []
  | j :: js, L => L.getD j Asn.T :: selP js (L.eraseIdx j)
def selK (n : Nat) (js : List Nat) (L : List Asn) : List Asn := selP js (L.take n) ++ L.drop n

theorem starL_cons {P : Asn} {L : List Asn} {h a b : PH} (hp : P a) (hl : starL L b) (hd : PH.dj a b) (he : ∀ i, h i = PH.or a b i) : starL (P :: L) h := ⟨a, b, hp, hl, hd, he⟩
theorem starL_pull {j : Nat} {L : List Asn} {h : PH} (hs : starL L h) : starL (L.getD j Asn.T :: L.eraseIdx j) h := by
  cases hj : L[j]? with
  | none =>
    have e : L.getD j Asn.T = Asn.T := by simp [List.getD, hj]
    rw [e, List.eraseIdx_of_length_le (by simpa using hj)]
    exact ⟨fun _ => none, h, trivial, hs, fun i => .inl rfl, fun i => (PH.or_r rfl).symm⟩
  | some P =>
    have e : L.getD j Asn.T = P := by simp [List.getD, hj]
    rw [e]
    obtain ⟨a, b, h1, h2, h3, h4⟩ := starL_at hj hs
    exact ⟨a, b, h1, h2, h3, h4⟩
theorem starL_app : ∀ {A B : List Asn} {h : PH}, starL (A ++ B) h ↔ ∃ a b, starL A a ∧ starL B b ∧ PH.dj a b ∧ ∀ i, h i = PH.or a b i
  | [], B, h => ⟨fun hs => ⟨fun _ => none, h, trivial, hs, fun i => .inl rfl, fun i => (PH.or_r rfl).symm⟩, fun ⟨a, b, _, h2, h3, h4⟩ => starL_congr (fun i => ((h4 i).trans (PH.or_comm h3 i)).symm) (starL_mono h3.symm h2)⟩
  | P :: A, B, h => by
    constructor
    · rintro ⟨p, q, h1, h2, h3, h4⟩
      obtain ⟨a, b, k1, k2, k3, k4⟩ := starL_app.1 h2
      have hp : PH.dj p a ∧ PH.dj p b := PH.dj_or.1 (fun i => by rw [← k4 i]; exact h3 i)
      refine ⟨PH.or p a, b, ⟨p, a, h1, k1, hp.1, fun _ => rfl⟩, k2, (PH.dj_or.2 ⟨hp.2.symm, k3.symm⟩).symm, fun i => ?_⟩
      rw [h4 i, PH.or_assoc]
      simp only [PH.or, k4 i]
    · rintro ⟨a, b, ⟨p, q, h1, h2, h3, h4⟩, k2, k3, k4⟩
      have hp : PH.dj b p ∧ PH.dj b q := PH.dj_or.1 (fun i => by rw [← h4 i]; exact k3.symm i)
      refine ⟨p, PH.or q b, h1, starL_app.2 ⟨q, b, h2, k2, hp.2.symm, fun _ => rfl⟩, PH.dj_or.2 ⟨h3, hp.1.symm⟩, fun i => ?_⟩
      rw [k4 i, ← PH.or_assoc]
      simp only [PH.or, h4 i]
theorem starL_sel : ∀ {js : List Nat} {L : List Asn} {h : PH}, starL L h → starL (selP js L) h
  | [], _, _, _ => trivial
  | j :: js, L, h, hs => by
    obtain ⟨a, b, h1, h2, h3, h4⟩ := starL_pull (j := j) hs
    exact ⟨a, b, h1, starL_sel h2, h3, h4⟩

section
variable {st st' : Store} {L : List Asn} {id j : Nat} {o : AObj}

theorem SH.nil : SH st [] := trivial
theorem SH.sel (n : Nat) (js : List Nat) (hs : SH st L) : SH st (selK n js L) := by
  have e : L = L.take n ++ L.drop n := by simp
  unfold SH at hs
  rw [e] at hs
  obtain ⟨a, b, h1, h2, h3, h4⟩ := starL_app.1 hs
  exact starL_app.2 ⟨a, b, starL_sel h1, h2, h3, h4⟩
theorem SH.perm' {P : Asn} {j : Nat} {L' : List Asn} (hs : SH st L) (h : L.getD j Asn.T = P ∧ L.eraseIdx j = L') : SH st (P :: L') := by
  obtain ⟨rfl, rfl⟩ := h
  exact starL_pull hs
theorem SH.g (hs : SH st L) (j : Nat) (hj : L[j]? = some (pt id o)) : st[id]? = some o := by
  obtain ⟨a, b, h1, h2, h3, h4⟩ := starL_at hj hs
  have := h4 id
  rw [this]
  exact PH.or_l (by rw [h1 id, if_pos rfl])
/-- One part turns, the others stay. -/
theorem SH.upd {P P' : Asn} (hs : SH st L) (hj : L[j]? = some P) (h : ∀ a b : PH, P a → PH.dj a b → (∀ i, st[i]? = PH.or a b i) → ∃ a', P' a' ∧ PH.dj a' b ∧ ∀ i, st'[i]? = PH.or a' b i) : SH st' (L.set j P') := by
  obtain ⟨a, b, h1, h2, h3, h4⟩ := starL_at hj hs
  obtain ⟨a', k1, k2, k3⟩ := h a b h1 h3 h4
  exact starL_congr (fun i => (k3 i).symm) (starL_put (List.getElem?_eq_some_iff.1 hj).1 k1 h2 k2)
theorem SH.set (hs : SH st L) (hj : L[j]? = some (pt id o)) (o' : AObj) : SH (st.set id o') (L.set j (pt id o')) := by
  have hid : id < st.length := (List.getElem?_eq_some_iff.1 (hs.g j hj)).1
  refine hs.upd hj fun a b ha hd he => ⟨fun i => if i = id then some o' else none, fun _ => rfl, fun i => ?_, fun i => ?_⟩
  · by_cases hi : i = id
    · right
      rcases hd i with e | e
      · rw [ha i, if_pos hi] at e; cases e
      · exact e
    · exact .inl (if_neg hi)
  · by_cases hi : i = id
    · subst hi
      rw [List.getElem?_set_self hid, PH.or_l (a := fun j => if j = i then some o' else none) (x := o') (if_pos rfl)]
    · rw [List.getElem?_set_ne (Ne.symm hi), he i, PH.or_r (a := fun i => if i = id then some o' else none) (if_neg hi), PH.or_r (by rw [ha i, if_neg hi])]
/-- A part is put in another's place: reckoned out. -/
def setL : List Asn → Nat → Asn → Option (List Asn)
  | [], _, _ => none
  | a :: L, j, P => match j with
    | 0 => some (P :: L)
    | j + 1 => match setL L j P with
      | some L' => some (a :: L')
      | none => none
theorem setL_eq : ∀ {L : List Asn} {j : Nat} {P : Asn} {L' : List Asn}, setL L j P = some L' → L' = L.set j P
  | [], _, _, _, h => by simp [setL] at h
  | a :: L, 0, P, L', h => by simp only [setL] at h; cases h; rfl
  | a :: L, j + 1, P, L', h => by
    simp only [setL] at h
    split at h
    · rename_i L2 h2; cases h; rw [List.set_cons_succ, setL_eq h2]
    · cases h
/-- One is taken out: reckoned out. -/
def outL : List Asn → Nat → Option (Asn × List Asn)
  | [], _ => none
  | a :: L, j => match j with
    | 0 => some (a, L)
    | j + 1 => match outL L j with
      | some z => match z with
        | (P, L') => some (P, a :: L')
      | none => none
theorem outL_eq : ∀ {L : List Asn} {j : Nat} {P : Asn} {L' : List Asn}, outL L j = some (P, L') → L.getD j Asn.T = P ∧ L.eraseIdx j = L'
  | [], _, _, _, h => by simp [outL] at h
  | a :: L, 0, P, L', h => by simp only [outL] at h; cases h; exact ⟨rfl, rfl⟩
  | a :: L, j + 1, P, L', h => by
    simp only [outL] at h
    split at h
    · rename_i z h2
      obtain ⟨P2, L2⟩ := z
      cases h
      obtain ⟨h3, h4⟩ := outL_eq h2
      exact ⟨h3, by rw [List.eraseIdx_cons_succ, h4]⟩
    · cases h
/-- The parts numbered so, of the first n; and all behind these. -/
def pickL : Nat → List Nat → List Asn → Option (List Asn)
  | 0, js, L => match js with
    | [] => some L
    | _ :: _ => none
  | n + 1, js, L => match js with
    | [] => match L with
      | [] => none
      | _ :: L => pickL n [] L
    | j :: js => match outL L j with
      | some z => match z with
        | (P, L') => match pickL n js L' with
          | some L2 => some (P :: L2)
          | none => none
      | none => none
/-- A new part ahead of the others. -/
theorem SH.new {P : Asn} {a : PH} (hs : SH st L) (hp : P a) (hd : ∀ i, i < st.length → a i = none) (hg : ∀ i, st.length ≤ i → st'[i]? = a i) (hl : ∀ i, i < st.length → st'[i]? = st[i]?) : SH st' (P :: L) := by
  refine ⟨a, fun i => st[i]?, hp, hs, fun i => ?_, fun i => ?_⟩
  · rcases Nat.lt_or_ge i st.length with h | h
    · exact .inl (hd i h)
    · exact .inr (List.getElem?_eq_none h)
  · show st'[i]? = _
    rcases Nat.lt_or_ge i st.length with h | h
    · rw [hl i h, PH.or_r (hd i h)]
    · rw [hg i h]
      cases e : a i with
      | none => rw [PH.or_r e]; exact (List.getElem?_eq_none h).symm
      | some x => exact (PH.or_l e).symm
theorem SH.push (hs : SH st L) (o : AObj) : SH (st ++ [o]) (pt st.length o :: L) := by
  refine hs.new (a := fun i => if i = st.length then some o else none) (fun _ => rfl) (fun i hi => if_neg (by omega)) (fun i hi => ?_) fun i hi => ?_
  · by_cases h : i = st.length
    · subst h; simp
    · rw [if_neg h, List.getElem?_eq_none (by simp; omega)]
  · rw [List.getElem?_append_left hi]
theorem SH.empt (hs : SH st L) {P : Asn} (hp : P (fun _ => none)) : SH st (P :: L) := ⟨fun _ => none, fun i => st[i]?, hp, hs, fun i => .inl rfl, fun i => (PH.or_r rfl).symm⟩

/-- Objects that are to be born. -/
def ptU (n : Nat) : Nat → Nat → List Asn
  | 0, _ => []
  | m + 1, r => pt (n + r) .unborn :: ptU n m (r + 1)
theorem SH.unborn (hs : SH st L) (n : Nat) : SH (st ++ List.replicate n .unborn) (ptU st.length n 0 ++ L) := by
  have key : ∀ (m r : Nat) (h : PH), (∀ i, h i = if st.length + r ≤ i ∧ i < st.length + r + m then some .unborn else none) → starL (ptU st.length m r) h := by
    intro m
    induction m with
    | zero => intro r h _; trivial
    | succ m ih =>
      intro r h hh
      refine ⟨fun i => if i = st.length + r then some .unborn else none, fun i => if st.length + (r + 1) ≤ i ∧ i < st.length + (r + 1) + m then some .unborn else none, fun _ => rfl, ih (r + 1) _ fun _ => rfl, fun i => ?_, fun i => ?_⟩
      · by_cases e : i = st.length + r
        · exact .inr (if_neg (by omega))
        · exact .inl (if_neg e)
      · rw [hh i]
        by_cases e : i = st.length + r
        · rw [PH.or_l (a := fun i => if i = st.length + r then some .unborn else none) (x := .unborn) (if_pos e), if_pos (by omega)]
        · rw [PH.or_r (a := fun i => if i = st.length + r then some .unborn else none) (if_neg e)]
          by_cases e2 : st.length + (r + 1) ≤ i ∧ i < st.length + (r + 1) + m
          · rw [if_pos e2, if_pos (by omega)]
          · rw [if_neg e2, if_neg (by omega)]
  refine starL_app.2 ⟨fun i => if st.length + 0 ≤ i ∧ i < st.length + 0 + n then some .unborn else none, fun i => st[i]?, key n 0 _ fun _ => rfl, hs, fun i => ?_, fun i => ?_⟩
  · rcases Nat.lt_or_ge i st.length with h | h
    · exact .inl (if_neg (by omega))
    · exact .inr (List.getElem?_eq_none h)
  · show (st ++ List.replicate n .unborn)[i]? = _
    rcases Nat.lt_or_ge i st.length with h | h
    · rw [PH.or_r (a := fun i => if st.length + 0 ≤ i ∧ i < st.length + 0 + n then some .unborn else none) (if_neg (by omega)), List.getElem?_append_left h]
    · by_cases e : i < st.length + n
      · rw [PH.or_l (a := fun i => if st.length + 0 ≤ i ∧ i < st.length + 0 + n then some .unborn else none) (x := .unborn) (if_pos (by omega)), List.getElem?_append_right h, List.getElem?_replicate, if_pos (by omega)]
      · rw [PH.or_r (a := fun i => if st.length + 0 ≤ i ∧ i < st.length + 0 + n then some .unborn else none) (if_neg (by omega)), List.getElem?_eq_none (by simp; omega), List.getElem?_eq_none h]
end

theorem starL_tail {P : Asn} {L : List Asn} {h : PH} (hs : starL (P :: L) h) : starL L h := by
  obtain ⟨a, b, _, h2, h3, h4⟩ := hs
  exact starL_congr (fun i => by rw [h4 i]; exact (PH.or_comm h3 i).symm) (starL_mono h3.symm h2)
theorem starL_pick : ∀ {n : Nat} {js : List Nat} {L L' : List Asn} {h : PH}, pickL n js L = some L' → starL L h → starL L' h
  | 0, [], L, L', h, hp, hs => by simp only [pickL] at hp; cases hp; exact hs
  | 0, _ :: _, L, L', h, hp, hs => by simp [pickL] at hp
  | n + 1, [], [], L', h, hp, hs => by simp [pickL] at hp
  | n + 1, [], _ :: L, L', h, hp, hs => by
    simp only [pickL] at hp
    exact starL_pick hp (starL_tail hs)
  | n + 1, j :: js, L, L', h, hp, hs => by
    simp only [pickL] at hp
    split at hp
    · rename_i z hz
      obtain ⟨P, L1⟩ := z
      simp only at hp
      split at hp
      · rename_i L2 h2
        cases hp
        obtain ⟨rfl, rfl⟩ := outL_eq hz
        obtain ⟨a, b, k1, k2, k3, k4⟩ := starL_pull (j := j) hs
        exact ⟨a, b, k1, starL_pick h2 k2, k3, k4⟩
      · cases hp
    · cases hp
theorem SH.p {st : Store} {L L' : List Asn} (hs : SH st L) (n : Nat) (js : List Nat) (hp : pickL n js L = some L') : SH st L' := starL_pick hp hs

/-! ### Slices that may be appended to -/
def ownV {α : Type} (es : Nat) (f : α → AV) (o : Sl α) (id : Nat) : AV := match o with
  | none => .nils
  | some l => .sl es (l.map f) (some id)
def ownA {α : Type} (id : Nat) (o : Sl α) : Asn := match o with
  | none => emp
  | some l => pt id (.tail l.length)
theorem rd_W {α : Type} {es : Nat} {f : α → AV} {o : Sl α} {id : Nat} {v : AV} (h : v = ownV es f o id) : RdV es f o v := by
  subst h
  cases o with
  | none => exact .inl ⟨rfl, rfl⟩
  | some l => exact .inr ⟨l, some id, rfl, rfl⟩
theorem own_strip {α : Type} {es : Nat} {f : α → AV} (hf : ∀ x, DS (f x) (f x)) {o : Sl α} {id : Nat} : (ownV es f o id).strip = slV es f o := rd_strip (fun x => (hf x).2) (rd_W rfl)
theorem own_data {α : Type} {es : Nat} {f : α → AV} (hf : ∀ x, DS (f x) (f x)) {o : Sl α} {id : Nat} : (ownV es f o id).data = true := rd_data (fun x => (hf x).1) (rd_W rfl)
theorem ds_own {α : Type} {es : Nat} {f : α → AV} (hf : ∀ x, DS (f x) (f x)) {o : Sl α} {id : Nat} : DS (ownV es f o id) (slV es f o) := ⟨own_data hf, own_strip hf⟩

theorem SH.ownNil {st : Store} {L : List Asn} (hs : SH st L) (α : Type) : SH st (ownA 0 (none : Sl α) :: L) := hs.empt fun _ => rfl

/-- Something is appended. -/
theorem SH.app {st : Store} {L : List Asn} {E : Glob} {tm : Fr} {x y : AX} {j : Nat} {α : Type} {es bytes : Nat} {f : α → AV} {o : Sl α} {id : Nat} {ys : List α} (hs : SH st L) (hj : L[j]? = some (ownA id o)) (hx : tm.x x = ownV es f o id)
    (hy : appElems es st (tm.x y) = some (ys.map f)) (hb : ((ls o).length + ys.length) * bytes ≤ 140737488355328) :
    ∃ id' st', evalAI E tm st (.app es bytes x y) = some (ownV es f (sapp o ys) id', st') ∧ SH st' (L.set j (ownA id' (sapp o ys))) := by
  simp only [ev_app, hy, obind_some, hx]
  cases o with
  | none =>
    cases ys with
    | nil =>
      refine ⟨id, st, rfl, ?_⟩
      have : L.set j (ownA id (sapp (none : Sl α) [])) = L := set_get_self _ _ _ hj
      rw [this]; exact hs
    | cons z zs =>
      simp only [ls_none, List.length_nil, Nat.zero_add] at hb
      refine ⟨st.length, st ++ [.tail (z :: zs).length], ?_, ?_⟩
      · simp only [ownV, appV, List.map_cons]
        rw [if_pos (by simpa using hb)]
        simp [sapp, ls]
      · refine hs.upd hj fun a b ha hd he => ⟨fun i => if i = st.length then some (.tail (z :: zs).length) else none, fun _ => by simp [sapp, ls], fun i => ?_, fun i => ?_⟩
        · by_cases e : i = st.length
          · right
            have := he i
            rw [List.getElem?_eq_none (by omega)] at this
            exact (PH.or_none.1 this.symm).2
          · exact .inl (if_neg e)
        · by_cases e : i = st.length
          · rw [PH.or_l (a := fun i => if i = st.length then some (.tail (z :: zs).length) else none) (x := .tail (z :: zs).length) (if_pos e)]; subst e; simp
          · rw [PH.or_r (a := fun i => if i = st.length then some (.tail (z :: zs).length) else none) (if_neg e)]
            have h1 := he i
            rw [PH.or_r (ha i)] at h1
            rw [← h1]
            rcases Nat.lt_or_ge i st.length with h | h
            · rw [List.getElem?_append_left h]
            · rw [List.getElem?_eq_none (by simp; omega), List.getElem?_eq_none h]
  | some l =>
    have hg : st[id]? = some (.tail l.length) := hs.g j hj
    refine ⟨id, st.set id (.tail (l.length + ys.length)), ?_, ?_⟩
    · simp only [ownV, appV, hg, List.length_map]
      rw [if_pos ⟨trivial, trivial, hb⟩]
      simp [sapp, ls]
    · have := SH.set (o' := .tail (l.length + ys.length)) hs hj
      have e : ownA id (sapp (some l) ys) = pt id (.tail (l.length + ys.length)) := by simp [sapp, ls, ownA]
      rw [e]; exact this
end Go.Proofs.Ytjbafmnocopofaa.AW
