/-
  Texts of this proof, put together: FwS1, FwS2, FwS3, FwS4, FwRow2, FwS6, FwS7, FwS8, FwRd, FwS5, Bl, FwKl, Ty, Rd, FwIt, ItS, It.
-/
import Derived.Test.YtcidnoghoifmmaaDoorFwT3
import Derived.Test.YtcidnoghoifmmaaDoorFwRow
import Derived.Test.YtcidnoghoifmmaaDoorRows
import Derived.Deep.Slices
import Derived.Deep.DeepHandedRow
import Derived.Lib.LaidTab
import Derived.Lib.Builder
import Derived.Lib.UnsafeStr
import Derived.Test.YtcidnoghoifmmaaDoorProg
import Derived.WalkKit
import Derived.KernelRfl
import Derived.Lib.ItoaMem
import Derived.Shelf.Strconv.Itoa3
import Derived.Shelf.LaysM
section
/-
  What is known of a store, object by object: parts of it that lie apart.
-/

set_option linter.unusedVariables false
set_option linter.unusedSimpArgs false
set_option linter.unusedVariables false
namespace Go.Proofs.YtcidnoghoifmmaaDoor.AW
open Go

abbrev PH := Nat → Option AObj
abbrev Asn := PH → Prop
def PH.dj (a b : PH) : Prop := ∀ i, a i = none ∨ b i = none
def PH.or (a b : PH) : PH := fun i => match a i with | some x => some x | none => b i
def starL : List Asn → Asn
  | [], _ => True
  | P :: L, h => ∃ a b : PH, P a ∧ starL L b ∧ PH.dj a b ∧ ∀ i, h i = PH.or a b i
def SH (st : Store) (L : List Asn) : Prop := starL L (fun i => st[i]?)
def pt (id : Nat) (o : AObj) : Asn := fun h => ∀ i, h i = if i = id then some o else none
def emp : Asn := fun h => ∀ i, h i = none

theorem PH.or_l {a b : PH} {i : Nat} {x : AObj} (h : a i = some x) : PH.or a b i = some x := by simp only [PH.or, h]
theorem PH.or_r {a b : PH} {i : Nat} (h : a i = none) : PH.or a b i = b i := by simp only [PH.or, h]
theorem PH.or_none {a b : PH} {i : Nat} : PH.or a b i = none ↔ a i = none ∧ b i = none := by
  cases h : a i with
  | none => simp [PH.or, h]
  | some x => simp [PH.or, h]
theorem PH.dj.symm {a b : PH} (h : PH.dj a b) : PH.dj b a := fun i => (h i).symm
theorem PH.or_comm {a b : PH} (h : PH.dj a b) (i : Nat) : PH.or a b i = PH.or b a i := by
  rcases h i with e | e
  · rw [PH.or_r e]
    cases h2 : b i with
    | none => exact (PH.or_none.2 ⟨h2, e⟩).symm
    | some x => exact (PH.or_l h2).symm
  · rw [PH.or_r e]
    cases h2 : a i with
    | none => exact PH.or_none.2 ⟨h2, e⟩
    | some x => exact PH.or_l h2
theorem PH.or_assoc (a b c : PH) (i : Nat) : PH.or (PH.or a b) c i = PH.or a (PH.or b c) i := by
  cases h : a i with
  | none =>
    rw [PH.or_r h]
    cases h2 : b i with
    | none => rw [PH.or_r (PH.or_none.2 ⟨h, h2⟩), PH.or_r h2]
    | some x => rw [PH.or_l (x := x) (by rw [PH.or_r h]; exact h2), PH.or_l h2]
  | some x => rw [PH.or_l (x := x) (PH.or_l h), PH.or_l h]
theorem PH.dj_or {a b c : PH} : PH.dj a (PH.or b c) ↔ PH.dj a b ∧ PH.dj a c := by
  constructor
  · intro h
    refine ⟨fun i => ?_, fun i => ?_⟩
    · rcases h i with e | e
      · exact .inl e
      · exact .inr (PH.or_none.1 e).1
    · rcases h i with e | e
      · exact .inl e
      · exact .inr (PH.or_none.1 e).2
  · intro ⟨h1, h2⟩ i
    rcases h1 i with e | e
    · exact .inl e
    · rcases h2 i with e' | e'
      · exact .inl e'
      · exact .inr (PH.or_none.2 ⟨e, e'⟩)

theorem starL_congr : ∀ {L : List Asn} {h h' : PH}, (∀ i, h i = h' i) → starL L h → starL L h'
  | [], _, _, _, _ => trivial
  | P :: L, h, h', e, ⟨a, b, h1, h2, h3, h4⟩ => ⟨a, b, h1, h2, h3, fun i => (e i).symm.trans (h4 i)⟩
theorem starL_mono : ∀ {L : List Asn} {a b : PH}, PH.dj a b → starL L a → starL L (PH.or a b)
  | [], _, _, _, _ => trivial
  | P :: L, a, b, hd, ⟨p, q, h1, h2, h3, h4⟩ => by
    have hq : PH.dj p b ∧ PH.dj q b := by
      refine ⟨fun i => ?_, fun i => ?_⟩
      · rcases hd i with e | e
        · rw [h4 i] at e; exact .inl (PH.or_none.1 e).1
        · exact .inr e
      · rcases hd i with e | e
        · rw [h4 i] at e; exact .inl (PH.or_none.1 e).2
        · exact .inr e
    refine ⟨p, PH.or q b, h1, starL_mono hq.2 h2, PH.dj_or.2 ⟨h3, hq.1⟩, fun i => ?_⟩
    rw [← PH.or_assoc]
    simp only [PH.or, h4 i]
theorem starL_at : ∀ {j : Nat} {L : List Asn} {h : PH} {P : Asn}, L[j]? = some P → starL L h → ∃ a b, P a ∧ starL (L.eraseIdx j) b ∧ PH.dj a b ∧ ∀ i, h i = PH.or a b i
  | _, [], _, _, hj, _ => by simp at hj
  | 0, Q :: L, h, P, hj, ⟨a, b, h1, h2, h3, h4⟩ => by
    simp at hj; subst hj
    exact ⟨a, b, h1, h2, h3, h4⟩
  | j + 1, Q :: L, h, P, hj, ⟨a, b, h1, h2, h3, h4⟩ => by
    simp at hj
    obtain ⟨p, q, k1, k2, k3, k4⟩ := starL_at hj h2
    have hap : PH.dj a p ∧ PH.dj a q := PH.dj_or.1 (fun i => by rw [← k4 i]; exact h3 i)
    refine ⟨p, PH.or a q, k1, ⟨a, q, h1, k2, hap.2, fun i => rfl⟩, PH.dj_or.2 ⟨hap.1.symm, k3⟩, fun i => ?_⟩
    rw [h4 i, ← PH.or_assoc]
    have e1 : PH.or a b i = PH.or a (PH.or p q) i := by simp only [PH.or, k4 i]
    rw [e1, ← PH.or_assoc]
    have e2 := PH.or_comm hap.1 i
    simp only [PH.or] at e2 ⊢
    rw [e2]
theorem starL_put : ∀ {j : Nat} {L : List Asn} {a b : PH} {P : Asn}, j < L.length → P a → starL (L.eraseIdx j) b → PH.dj a b → starL (L.set j P) (PH.or a b)
  | _, [], _, _, _, hj, _, _, _ => by simp at hj
  | 0, Q :: L, a, b, P, _, hp, hl, hd => ⟨a, b, hp, hl, hd, fun _ => rfl⟩
  | j + 1, Q :: L, a, b, P, hj, hp, ⟨p, q, h1, h2, h3, h4⟩, hd => by
    have hap : PH.dj a p ∧ PH.dj a q := PH.dj_or.1 (fun i => by rw [← h4 i]; exact hd i)
    have hj' : j < L.length := by simpa using hj
    refine ⟨p, PH.or a q, h1, starL_put hj' hp h2 hap.2, PH.dj_or.2 ⟨hap.1.symm, h3⟩, fun i => ?_⟩
    have e1 : PH.or a b i = PH.or a (PH.or p q) i := by simp only [PH.or, h4 i]
    rw [e1, ← PH.or_assoc, ← PH.or_assoc]
    have e2 := PH.or_comm hap.1 i
    simp only [PH.or] at e2 ⊢
    rw [e2]

def Asn.T : Asn := fun _ => True
theorem starL_pull {j : Nat} {L : List Asn} {h : PH} (hs : starL L h) : starL (L.getD j Asn.T :: L.eraseIdx j) h := by
  cases hj : L[j]? with
  | none =>
    have e : L.getD j Asn.T = Asn.T := by simp [List.getD, hj]
    rw [e, List.eraseIdx_of_length_le (by simpa using hj)]
    exact ⟨fun _ => none, h, trivial, hs, fun i => .inl rfl, fun i => (PH.or_r rfl).symm⟩
  | some P =>
    have e : L.getD j Asn.T = P := by simp [List.getD, hj]
    rw [e]
    obtain ⟨a, b, h1, h2, h3, h4⟩ := starL_at hj hs
    exact ⟨a, b, h1, h2, h3, h4⟩
theorem starL_app : ∀ {A B : List Asn} {h : PH}, starL (A ++ B) h ↔ ∃ a b, starL A a ∧ starL B b ∧ PH.dj a b ∧ ∀ i, h i = PH.or a b i
  | [], B, h => ⟨fun hs => ⟨fun _ => none, h, trivial, hs, fun i => .inl rfl, fun i => (PH.or_r rfl).symm⟩, fun ⟨a, b, _, h2, h3, h4⟩ => starL_congr (fun i => ((h4 i).trans (PH.or_comm h3 i)).symm) (starL_mono h3.symm h2)⟩
  | P :: A, B, h => by
    constructor
    · rintro ⟨p, q, h1, h2, h3, h4⟩
      obtain ⟨a, b, k1, k2, k3, k4⟩ := starL_app.1 h2
      have hp : PH.dj p a ∧ PH.dj p b := PH.dj_or.1 (fun i => by rw [← k4 i]; exact h3 i)
      refine ⟨PH.or p a, b, ⟨p, a, h1, k1, hp.1, fun _ => rfl⟩, k2, (PH.dj_or.2 ⟨hp.2.symm, k3.symm⟩).symm, fun i => ?_⟩
      rw [h4 i, PH.or_assoc]
      simp only [PH.or, k4 i]
    · rintro ⟨a, b, ⟨p, q, h1, h2, h3, h4⟩, k2, k3, k4⟩
      have hp : PH.dj b p ∧ PH.dj b q := PH.dj_or.1 (fun i => by rw [← h4 i]; exact k3.symm i)
      refine ⟨p, PH.or q b, h1, starL_app.2 ⟨q, b, h2, k2, hp.2.symm, fun _ => rfl⟩, PH.dj_or.2 ⟨h3, hp.1.symm⟩, fun i => ?_⟩
      rw [k4 i, ← PH.or_assoc]
      simp only [PH.or, h4 i]
section
variable {st st' : Store} {L : List Asn} {id j : Nat} {o : AObj}

theorem SH.nil : SH st [] := trivial
theorem SH.g (hs : SH st L) (j : Nat) (hj : L[j]? = some (pt id o)) : st[id]? = some o := by
  obtain ⟨a, b, h1, h2, h3, h4⟩ := starL_at hj hs
  have := h4 id
  rw [this]
  exact PH.or_l (by rw [h1 id, if_pos rfl])
theorem SH.upd {P P' : Asn} (hs : SH st L) (hj : L[j]? = some P) (h : ∀ a b : PH, P a → PH.dj a b → (∀ i, st[i]? = PH.or a b i) → ∃ a', P' a' ∧ PH.dj a' b ∧ ∀ i, st'[i]? = PH.or a' b i) : SH st' (L.set j P') := by
  obtain ⟨a, b, h1, h2, h3, h4⟩ := starL_at hj hs
  obtain ⟨a', k1, k2, k3⟩ := h a b h1 h3 h4
  exact starL_congr (fun i => (k3 i).symm) (starL_put (List.getElem?_eq_some_iff.1 hj).1 k1 h2 k2)
theorem SH.set (hs : SH st L) (hj : L[j]? = some (pt id o)) (o' : AObj) : SH (st.set id o') (L.set j (pt id o')) := by
  have hid : id < st.length := (List.getElem?_eq_some_iff.1 (hs.g j hj)).1
  refine hs.upd hj fun a b ha hd he => ⟨fun i => if i = id then some o' else none, fun _ => rfl, fun i => ?_, fun i => ?_⟩
  · by_cases hi : i = id
    · right
      rcases hd i with e | e
      · rw [ha i, if_pos hi] at e; cases e
      · exact e
    · exact .inl (if_neg hi)
  · by_cases hi : i = id
    · subst hi
      rw [List.getElem?_set_self hid, PH.or_l (a := fun j => if j = i then some o' else none) (x := o') (if_pos rfl)]
    · rw [List.getElem?_set_ne (Ne.symm hi), he i, PH.or_r (a := fun i => if i = id then some o' else none) (if_neg hi), PH.or_r (by rw [ha i, if_neg hi])]
def setL : List Asn → Nat → Asn → Option (List Asn)
  | [], _, _ => none
  | a :: L, j, P => match j with
    | 0 => some (P :: L)
    | j + 1 => match setL L j P with
      | some L' => some (a :: L')
      | none => none
theorem setL_eq : ∀ {L : List Asn} {j : Nat} {P : Asn} {L' : List Asn}, setL L j P = some L' → L' = L.set j P
  | [], _, _, _, h => by simp [setL] at h
  | a :: L, 0, P, L', h => by simp only [setL] at h; cases h; rfl
  | a :: L, j + 1, P, L', h => by
    simp only [setL] at h
    split at h
    · rename_i L2 h2; cases h; rw [List.set_cons_succ, setL_eq h2]
    · cases h
def outL : List Asn → Nat → Option (Asn × List Asn)
  | [], _ => none
  | a :: L, j => match j with
    | 0 => some (a, L)
    | j + 1 => match outL L j with
      | some z => match z with
        | (P, L') => some (P, a :: L')
      | none => none
theorem outL_eq : ∀ {L : List Asn} {j : Nat} {P : Asn} {L' : List Asn}, outL L j = some (P, L') → L.getD j Asn.T = P ∧ L.eraseIdx j = L'
  | [], _, _, _, h => by simp [outL] at h
  | a :: L, 0, P, L', h => by simp only [outL] at h; cases h; exact ⟨rfl, rfl⟩
  | a :: L, j + 1, P, L', h => by
    simp only [outL] at h
    split at h
    · rename_i z h2
      obtain ⟨P2, L2⟩ := z
      cases h
      obtain ⟨h3, h4⟩ := outL_eq h2
      exact ⟨h3, by rw [List.eraseIdx_cons_succ, h4]⟩
    · cases h
def pickL : Nat → List Nat → List Asn → Option (List Asn)
  | 0, js, L => match js with
    | [] => some L
    | _ :: _ => none
  | n + 1, js, L => match js with
    | [] => match L with
      | [] => none
      | _ :: L => pickL n [] L
    | j :: js => match outL L j with
      | some z => match z with
        | (P, L') => match pickL n js L' with
          | some L2 => some (P :: L2)
          | none => none
      | none => none
theorem SH.new {P : Asn} {a : PH} (hs : SH st L) (hp : P a) (hd : ∀ i, i < st.length → a i = none) (hg : ∀ i, st.length ≤ i → st'[i]? = a i) (hl : ∀ i, i < st.length → st'[i]? = st[i]?) : SH st' (P :: L) := by
  refine ⟨a, fun i => st[i]?, hp, hs, fun i => ?_, fun i => ?_⟩
  · rcases Nat.lt_or_ge i st.length with h | h
    · exact .inl (hd i h)
    · exact .inr (List.getElem?_eq_none h)
  · show st'[i]? = _
    rcases Nat.lt_or_ge i st.length with h | h
    · rw [hl i h, PH.or_r (hd i h)]
    · rw [hg i h]
      cases e : a i with
      | none => rw [PH.or_r e]; exact (List.getElem?_eq_none h).symm
      | some x => exact (PH.or_l e).symm
theorem SH.push (hs : SH st L) (o : AObj) : SH (st ++ [o]) (pt st.length o :: L) := by
  refine hs.new (a := fun i => if i = st.length then some o else none) (fun _ => rfl) (fun i hi => if_neg (by omega)) (fun i hi => ?_) fun i hi => ?_
  · by_cases h : i = st.length
    · subst h; simp
    · rw [if_neg h, List.getElem?_eq_none (by simp; omega)]
  · rw [List.getElem?_append_left hi]
theorem SH.empt (hs : SH st L) {P : Asn} (hp : P (fun _ => none)) : SH st (P :: L) := ⟨fun _ => none, fun i => st[i]?, hp, hs, fun i => .inl rfl, fun i => (PH.or_r rfl).symm⟩

def ptU (n : Nat) : Nat → Nat → List Asn
  | 0, _ => []
  | m + 1, r => pt (n + r) .unborn :: ptU n m (r + 1)
theorem SH.unborn (hs : SH st L) (n : Nat) : SH (st ++ List.replicate n .unborn) (ptU st.length n 0 ++ L) := by
  have key : ∀ (m r : Nat) (h : PH), (∀ i, h i = if st.length + r ≤ i ∧ i < st.length + r + m then some .unborn else none) → starL (ptU st.length m r) h := by
    intro m
    induction m with
    | zero => intro r h _; trivial
    | succ m ih =>
      intro r h hh
      refine ⟨fun i => if i = st.length + r then some .unborn else none, fun i => if st.length + (r + 1) ≤ i ∧ i < st.length + (r + 1) + m then some .unborn else none, fun _ => rfl, ih (r + 1) _ fun _ => rfl, fun i => ?_, fun i => ?_⟩
      · by_cases e : i = st.length + r
        · exact .inr (if_neg (by omega))
        · exact .inl (if_neg e)
      · rw [hh i]
        by_cases e : i = st.length + r
        · rw [PH.or_l (a := fun i => if i = st.length + r then some .unborn else none) (x := .unborn) (if_pos e), if_pos (by omega)]
        · rw [PH.or_r (a := fun i => if i = st.length + r then some .unborn else none) (if_neg e)]
          by_cases e2 : st.length + (r + 1) ≤ i ∧ i < st.length + (r + 1) + m
          · rw [if_pos e2, if_pos (by omega)]
          · rw [if_neg e2, if_neg (by omega)]
  refine starL_app.2 ⟨fun i => if st.length + 0 ≤ i ∧ i < st.length + 0 + n then some .unborn else none, fun i => st[i]?, key n 0 _ fun _ => rfl, hs, fun i => ?_, fun i => ?_⟩
  · rcases Nat.lt_or_ge i st.length with h | h
    · exact .inl (if_neg (by omega))
    · exact .inr (List.getElem?_eq_none h)
  · show (st ++ List.replicate n .unborn)[i]? = _
    rcases Nat.lt_or_ge i st.length with h | h
    · rw [PH.or_r (a := fun i => if st.length + 0 ≤ i ∧ i < st.length + 0 + n then some .unborn else none) (if_neg (by omega)), List.getElem?_append_left h]
    · by_cases e : i < st.length + n
      · rw [PH.or_l (a := fun i => if st.length + 0 ≤ i ∧ i < st.length + 0 + n then some .unborn else none) (x := .unborn) (if_pos (by omega)), List.getElem?_append_right h, List.getElem?_replicate, if_pos (by omega)]
      · rw [PH.or_r (a := fun i => if st.length + 0 ≤ i ∧ i < st.length + 0 + n then some .unborn else none) (if_neg (by omega)), List.getElem?_eq_none (by simp; omega), List.getElem?_eq_none h]
end

theorem starL_tail {P : Asn} {L : List Asn} {h : PH} (hs : starL (P :: L) h) : starL L h := by
  obtain ⟨a, b, _, h2, h3, h4⟩ := hs
  exact starL_congr (fun i => by rw [h4 i]; exact (PH.or_comm h3 i).symm) (starL_mono h3.symm h2)
theorem starL_pick : ∀ {n : Nat} {js : List Nat} {L L' : List Asn} {h : PH}, pickL n js L = some L' → starL L h → starL L' h
  | 0, [], L, L', h, hp, hs => by simp only [pickL] at hp; cases hp; exact hs
  | 0, _ :: _, L, L', h, hp, hs => by simp [pickL] at hp
  | n + 1, [], [], L', h, hp, hs => by simp [pickL] at hp
  | n + 1, [], _ :: L, L', h, hp, hs => by
    simp only [pickL] at hp
    exact starL_pick hp (starL_tail hs)
  | n + 1, j :: js, L, L', h, hp, hs => by
    simp only [pickL] at hp
    split at hp
    · rename_i z hz
      obtain ⟨P, L1⟩ := z
      simp only at hp
      split at hp
      · rename_i L2 h2
        cases hp
        obtain ⟨rfl, rfl⟩ := outL_eq hz
        obtain ⟨a, b, k1, k2, k3, k4⟩ := starL_pull (j := j) hs
        exact ⟨a, b, k1, starL_pick h2 k2, k3, k4⟩
      · cases hp
    · cases hp
theorem SH.p {st : Store} {L L' : List Asn} (hs : SH st L) (n : Nat) (js : List Nat) (hp : pickL n js L = some L') : SH st L' := starL_pick hp hs

def ownV {α : Type} (es : Nat) (f : α → AV) (o : Sl α) (id : Nat) : AV := match o with
  | none => .nils
  | some l => .sl es (l.map f) (some id)
def ownA {α : Type} (id : Nat) (o : Sl α) : Asn := match o with
  | none => emp
  | some l => pt id (.tail l.length)
theorem rd_W {α : Type} {es : Nat} {f : α → AV} {o : Sl α} {id : Nat} {v : AV} (h : v = ownV es f o id) : RdV es f o v := by
  subst h
  cases o with
  | none => exact .inl ⟨rfl, rfl⟩
  | some l => exact .inr ⟨l, some id, rfl, rfl⟩
theorem own_strip {α : Type} {es : Nat} {f : α → AV} (hf : ∀ x, DS (f x) (f x)) {o : Sl α} {id : Nat} : (ownV es f o id).strip = slV es f o := rd_strip (fun x => (hf x).2) (rd_W rfl)
theorem own_data {α : Type} {es : Nat} {f : α → AV} (hf : ∀ x, DS (f x) (f x)) {o : Sl α} {id : Nat} : (ownV es f o id).data = true := rd_data (fun x => (hf x).1) (rd_W rfl)
theorem ds_own {α : Type} {es : Nat} {f : α → AV} (hf : ∀ x, DS (f x) (f x)) {o : Sl α} {id : Nat} : DS (ownV es f o id) (slV es f o) := ⟨own_data hf, own_strip hf⟩

theorem SH.ownNil {st : Store} {L : List Asn} (hs : SH st L) (α : Type) : SH st (ownA 0 (none : Sl α) :: L) := hs.empt fun _ => rfl

theorem SH.app {st : Store} {L : List Asn} {E : Glob} {tm : Fr} {x y : AX} {j : Nat} {α : Type} {es bytes : Nat} {f : α → AV} {o : Sl α} {id : Nat} {ys : List α} (hs : SH st L) (hj : L[j]? = some (ownA id o)) (hx : tm.x x = ownV es f o id)
    (hy : appElems es st (tm.x y) = some (ys.map f)) (hb : ((ls o).length + ys.length) * bytes ≤ 140737488355328) :
    ∃ id' st', evalAI E tm st (.app es bytes x y) = some (ownV es f (sapp o ys) id', st') ∧ SH st' (L.set j (ownA id' (sapp o ys))) := by
  simp only [ev_app, hy, obind_some, hx]
  cases o with
  | none =>
    cases ys with
    | nil =>
      refine ⟨id, st, rfl, ?_⟩
      have : L.set j (ownA id (sapp (none : Sl α) [])) = L := set_get_self _ _ _ hj
      rw [this]; exact hs
    | cons z zs =>
      simp only [ls_none, List.length_nil, Nat.zero_add] at hb
      refine ⟨st.length, st ++ [.tail (z :: zs).length], ?_, ?_⟩
      · simp only [ownV, appV, List.map_cons]
        rw [if_pos (by simpa using hb)]
        simp [sapp, ls]
      · refine hs.upd hj fun a b ha hd he => ⟨fun i => if i = st.length then some (.tail (z :: zs).length) else none, fun _ => by simp [sapp, ls], fun i => ?_, fun i => ?_⟩
        · by_cases e : i = st.length
          · right
            have := he i
            rw [List.getElem?_eq_none (by omega)] at this
            exact (PH.or_none.1 this.symm).2
          · exact .inl (if_neg e)
        · by_cases e : i = st.length
          · rw [PH.or_l (a := fun i => if i = st.length then some (.tail (z :: zs).length) else none) (x := .tail (z :: zs).length) (if_pos e)]; subst e; simp
          · rw [PH.or_r (a := fun i => if i = st.length then some (.tail (z :: zs).length) else none) (if_neg e)]
            have h1 := he i
            rw [PH.or_r (ha i)] at h1
            rw [← h1]
            rcases Nat.lt_or_ge i st.length with h | h
            · rw [List.getElem?_append_left h]
            · rw [List.getElem?_eq_none (by simp; omega), List.getElem?_eq_none h]
  | some l =>
    have hg : st[id]? = some (.tail l.length) := hs.g j hj
    refine ⟨id, st.set id (.tail (l.length + ys.length)), ?_, ?_⟩
    · simp only [ownV, appV, hg, List.length_map]
      rw [if_pos ⟨trivial, trivial, hb⟩]
      simp [sapp, ls]
    · have := SH.set (o' := .tail (l.length + ys.length)) hs hj
      have e : ownA id (sapp (some l) ys) = pt id (.tail (l.length + ys.length)) := by simp [sapp, ls, ownA]
      rw [e]; exact this
end Go.Proofs.YtcidnoghoifmmaaDoor.AW
end
section
/-
  A function's walk: what is still to come is found by reckoning, and so is what plain operations do to the frame.
-/

set_option linter.unusedVariables false
namespace Go.Proofs.YtcidnoghoifmmaaDoor.AW
open Go

inductive KJ where
  | code (c : ACode)
  | ops (l : List AOp)
  | blk (id : Nat)
  | lp (b : ACode)

def wQ (X : Cx) : List KJ → AExit → Fr → Store → Prop
  | [] => X.fin
  | .code c :: k => thenQ (XS X.P X.E X.N X.mu c (wQ X k)) (wQ X k)
  | .ops l :: k => thenQ (fun tm st => xOps X.P X.E l (wQ X k .normal) tm st) (wQ X k)
  | .blk id :: k => blockQ id (wQ X k)
  | .lp b :: k => thenQ (XLoop X.P X.E X.N X.mu b (wQ X k)) (wQ X k)
def W (X : Cx) (k : List KJ) (tm : Fr) (st : Store) : Prop := wQ X k .normal tm st
def WD (X : Cx) (st0 : Store) (mr : Nat) (l : List AOp) (r : Nat) (suf : List AOp) (k : List KJ) (tm : Fr) (st : Store) : Prop :=
  lexQ X.P X.E st0 mr l r (sufK X.P X.E suf (wQ X k .normal)) tm st

def jdrop : List KJ → Nat → Option (List KJ)
  | [], _ => none
  | .blk id :: k, i => bif Nat.beq i id then some k else jdrop k i
  | _ :: k, i => jdrop k i

def intOpN (op : BinOp) (k : IntKind) (x : Int) (k' : IntKind) (y : Int) : Option AV :=
  match op with
  | .add => if k = k' then some (.int k (k.wrap (x + y))) else none
  | .sub => if k = k' then some (.int k (k.wrap (x - y))) else none
  | .mul => if k = k' then some (.int k (k.wrap (x * y))) else none
  | .and => if k = k' then some (.int k (andI k x y)) else none
  | .or => if k = k' then some (.int k (orI k x y)) else none
  | .xor => if k = k' then some (.int k (xorI k x y)) else none
  | .andNot => if k = k' then some (.int k (andNotI k x y)) else none
  | .eql => if k = k' then some (.bool (x == y)) else none
  | .neq => if k = k' then some (.bool (x != y)) else none
  | .lss => if k = k' then some (.bool (decide (x < y))) else none
  | .leq => if k = k' then some (.bool (decide (x ≤ y))) else none
  | .gtr => if k = k' then some (.bool (decide (x > y))) else none
  | .geq => if k = k' then some (.bool (decide (x ≥ y))) else none
  | _ => none
theorem intOpN_eq {op : BinOp} {k k' : IntKind} {x y : Int} {v : AV} (h : intOpN op k x k' y = some v) : intOp op k x k' y = some v := by
  cases op <;> simp only [intOpN] at h <;> first
    | (cases h; done)
    | simpa only [intOp, andI, orI, xorI, andNotI] using h

def strOpN (op : BinOp) (x y : List UInt8) : Option AV :=
  match op with
  | .eql => some (.bool (x == y))
  | .neq => some (.bool (!(x == y)))
  | .lss => some (.bool (Op.bytesLess x y))
  | .leq => some (.bool (Op.bytesLess x y || x == y))
  | .gtr => some (.bool (!(Op.bytesLess x y || x == y)))
  | .geq => some (.bool (!(Op.bytesLess x y)))
  | _ => none
theorem strOpN_eq {op : BinOp} {x y : Str} {v : AV} (h : strOpN op x y = some v) : strOp op x y = some v := by
  cases op <;> simp only [strOpN] at h <;> first
    | (cases h; done)
    | (cases h; rfl)

def pureI (i : AI) (tm : Fr) : Option AV :=
  match i with
  | .mv x => some (tm.x x)
  | .binI op x y => match tm.x x with
    | .int k a => match tm.x y with
      | .int k' b => intOpN op k a k' b
      | _ => none
    | _ => none
  | .binS op x y => match tm.x x with
    | .str a => match tm.x y with
      | .str b => strOpN op a b
      | _ => none
    | _ => none
  | .eqB neg x y => match tm.x x with
    | .bool a => match tm.x y with
      | .bool b => some (.bool (bif neg then !(a == b) else (a == b)))
      | _ => none
    | _ => none
  | .un op x => match op with
    | .neg => match tm.x x with
      | .int k n => some (.int k (k.wrap (0 - n)))
      | _ => none
    | .xor => match tm.x x with
      | .int k n => some (.int k (notI k n))
      | _ => none
    | .not => match tm.x x with
      | .bool b => some (.bool (!b))
      | _ => none
    | _ => none
  | .cvI k x => match tm.x x with
    | .int _ n => some (.int k (k.wrap n))
    | _ => none
  | .cvS x => match tm.x x with
    | .str s => some (.str s)
    | _ => none
  | .field1 off x => match tm.x x with
    | .agg cs => cs[off]?
    | _ => none
  | .extract x i => match tm.x x with
    | .tup vs => vs[i]?
    | _ => none
  | .lenS x => match tm.x x with
    | .str s => some (.int .i64 s.length)
    | _ => none
  | .lenA n => some (.int .i64 n)
  | .max l => match l with
    | [x, y] => match tm.x x with
      | .int k a => match tm.x y with
        | .int _ b => some (.int k (if b > a then b else a))
        | _ => none
      | _ => none
    | _ => none
  | .min l => match l with
    | [x, y] => match tm.x x with
      | .int k a => match tm.x y with
        | .int _ b => some (.int k (if b < a then b else a))
        | _ => none
      | _ => none
    | _ => none
  | .mkfn f caps => some (.fn f (caps.map tm.x))
  | _ => none

theorem pureI_still {i : AI} {tm : Fr} {v : AV} (h : pureI i tm = some v) : i.still = true := by
  cases i <;> simp only [pureI] at h <;> first
    | rfl
    | cases h

theorem pureI_eval {E : Glob} {st : Store} {i : AI} {tm : Fr} {v : AV} (h : pureI i tm = some v) : evalAI E tm st i = some (v, st) := by
  cases i <;> simp only [pureI] at h <;> try (cases h; done)
  case mv x => cases h; rfl
  case binI op x y =>
    split at h
    · split at h
      · rename_i k a hx _ k' b hy; exact e_bin hx hy (intOpN_eq h)
      · cases h
    · cases h
  case binS op x y =>
    split at h
    · split at h
      · rename_i a hx _ b hy; exact e_str hx hy (strOpN_eq h)
      · cases h
    · cases h
  case eqB neg x y =>
    split at h
    · split at h
      · rename_i a hx _ b hy
        cases h
        cases neg
        · exact e_eqB hx hy
        · exact e_neB hx hy
      · cases h
    · cases h
  case un op x =>
    split at h
    · split at h
      · rename_i hx; cases h; exact e_neg hx
      · cases h
    · split at h
      · rename_i hx; cases h; exact e_xorU hx
      · cases h
    · split at h
      · rename_i hx; cases h; exact e_not hx
      · cases h
    · cases h
  case cvI k x =>
    split at h
    · rename_i k' n hx; cases h; exact e_cvI hx
    · cases h
  case cvS x =>
    split at h
    · rename_i s hx; cases h; exact e_cvS hx
    · cases h
  case field1 off x =>
    split at h
    · rename_i cs hx; simp only [ev_field1, hx, asG_is, h, obind_some]
    · cases h
  case extract x n =>
    split at h
    · rename_i vs hx; exact e_extract hx h
    · cases h
  case lenS x =>
    split at h
    · rename_i s hx; cases h; exact e_lenS hx
    · cases h
  case lenA n => cases h; rfl
  case max l =>
    split at h
    · split at h
      · split at h
        · rename_i x y _ k a hx _ k' b hy; cases h; simp [evalAI, hx, hy, maxA]
        · cases h
      · cases h
    · cases h
  case min l =>
    split at h
    · split at h
      · split at h
        · rename_i x y _ k a hx _ k' b hy; cases h; simp [evalAI, hx, hy, minA]
        · cases h
      · cases h
    · cases h
  case mkfn f caps => cases h; rfl

def updL (tm : Fr) : List (Nat × AV) → Fr
  | [] => tm
  | (d, v) :: l => upd (updL tm l) d v
def look : List (Nat × AV) → Nat → Option AV
  | [], _ => none
  | (d, v) :: l, i => bif Nat.beq d i then some v else look l i
theorem look_eq {tm : Fr} : ∀ {l : List (Nat × AV)} {i : Nat} {v : AV}, look l i = some v → updL tm l i = v
  | [], i, v, h => by simp [look] at h
  | (d, w) :: l, i, v, h => by
    simp only [look] at h
    simp only [updL, upd]
    cases e : Nat.beq d i with
    | true => rw [e] at h; simpa using h
    | false => rw [e] at h; exact look_eq h
def Frm (tm : Fr) : List (Nat × AV) → Prop
  | [] => True
  | (d, v) :: l => tm d = v ∧ Frm tm l
theorem Frm.eq {tm : Fr} : ∀ {l : List (Nat × AV)}, Frm tm l → updL tm l = tm
  | [], _ => rfl
  | (d, v) :: l, ⟨h1, h2⟩ => by
    simp only [updL, Frm.eq h2]
    funext i
    unfold upd
    cases e : Nat.beq d i with
    | false => rfl
    | true => rw [← Nat.eq_of_beq_eq_true e]; exact h1.symm
def fi : List AV → Nat → List (Nat × AV)
  | [], _ => []
  | a :: l, n => (n, a) :: fi l (n + 1)
theorem fi_at {tm : Fr} : ∀ (ds : List AV) (n i : Nat), updL tm (fi ds n) i = if n ≤ i then (match ds[i - n]? with | some v => v | none => tm i) else tm i
  | [], n, i => by simp [fi, updL]
  | a :: l, n, i => by
    simp only [fi, updL, upd]
    cases e : Nat.beq n i with
    | true =>
      have := Nat.eq_of_beq_eq_true e
      subst this
      simp
    | false =>
      have hne : n ≠ i := fun e' => by rw [e', Nat.beq_refl] at e; cases e
      rw [cond_false, fi_at l (n + 1) i]
      by_cases h : n + 1 ≤ i
      · rw [if_pos h, if_pos (by omega)]
        have : i - n = (i - (n + 1)) + 1 := by omega
        rw [this, List.getElem?_cons_succ]
      · rw [if_neg h, if_neg (by omega)]
theorem fi_init (ds : List AV) : frInit ds = updL (fun _ => .tup []) (fi ds 0) := by
  funext i
  rw [fi_at]
  simp only [Nat.zero_le, if_true, Nat.sub_zero, frInit]
  cases ds[i]? <;> rfl

def lookX (fr : List (Nat × AV)) : AX → Option AV
  | .t n => look fr n
  | .c v => some v
theorem lookX_eq {tm : Fr} {fr : List (Nat × AV)} {x : AX} {v : AV} (h : lookX fr x = some v) : (updL tm fr).x x = v := by
  cases x with
  | t n => exact look_eq h
  | c w => simp only [lookX] at h; cases h; rfl
def stepV (tm : Fr) (i : AI) (fr : List (Nat × AV)) : Option AV :=
  match i with
  | .mv x => lookX fr x
  | .pick c a b => match lookX fr c with
    | some v => match v with
      | .bool t => match t with
        | true => lookX fr a
        | false => lookX fr b
      | _ => none
    | none => none
  | i => pureI i (updL tm fr)
theorem stepV_still {tm : Fr} {i : AI} {fr : List (Nat × AV)} {v : AV} (h : stepV tm i fr = some v) : i.still = true := by
  cases i <;> first
    | rfl
    | exact pureI_still (tm := updL tm fr) h
theorem stepV_eval {E : Glob} {st : Store} {tm : Fr} {i : AI} {fr : List (Nat × AV)} {v : AV} (h : stepV tm i fr = some v) : evalAI E (updL tm fr) st i = some (v, st) := by
  cases i <;> try exact pureI_eval (tm := updL tm fr) h
  case mv x => exact e_mv' (lookX_eq h)
  case pick c a b =>
    simp only [stepV] at h
    split at h
    · rename_i w hw
      split at h
      · rename_i t
        cases t with
        | true => exact e_pick_t (lookX_eq hw) rfl (lookX_eq h)
        | false => exact e_pick_f (lookX_eq hw) rfl (lookX_eq h)
      · cases h
    · cases h
def isTrue? (v : Option AV) : Option (Option Bool) :=
  match v with
  | some w => match w with
    | .bool t => match t with
      | true => some (some true)
      | false => some (some false)
    | .tup vs => match vs with
      | [] => some none
      | _ :: _ => none
    | _ => none
  | none => none
def stepF (w : Bool) (tm : Fr) (o : AOp) (fr : List (Nat × AV)) : Option (List (Nat × AV)) :=
  match o.dst with
  | none => none
  | some d => match o.guard with
    | some (g, b) => match isTrue? (look fr g) with
      | some z => match z with
        | none => bif w || Nat.beq (bornN ⟨some d, none, o.ins⟩) 0 then some ((d, .tup []) :: fr) else none
        | some t => match t == b with
          | true => match o.ins with
            | .plain i => match stepV tm i fr with
              | some v => some ((d, v) :: fr)
              | none => none
            | _ => none
          | false => bif w || Nat.beq (bornN ⟨some d, none, o.ins⟩) 0 then some ((d, .tup []) :: fr) else none
      | none => none
    | none => match o.ins with
      | .plain i => match stepV tm i fr with
        | some v => some ((d, v) :: fr)
        | none => none
      | _ => none
def runK (tm : Fr) : Nat → Nat → List KJ → List (Nat × AV) → Option (List KJ × List (Nat × AV))
  | 0, _, _, _ => none
  | n + 1, c, k, fr => match k with
    | [] => some ([], fr)
    | .lp b :: k => some (.lp b :: k, fr)
    | .blk _ :: k => runK tm n c k fr
    | .code x :: k => match x with
      | .seq a b => runK tm n c (.code a :: .code b :: k) fr
      | .skip => runK tm n c k fr
      | .ops l => runK tm n c (.ops l :: k) fr
      | .block i b => runK tm n c (.code b :: .blk i :: k) fr
      | .loop b => some (.lp b :: k, fr)
      | .exit i => match jdrop k i with
        | some k' => runK tm n c k' fr
        | none => none
      | .cond z a b => some (.code (.cond z a b) :: k, fr)
      | .ret => some (.code .ret :: k, fr)
      | .draw s m b q u => some (.code (.draw s m b q u) :: k, fr)
      | .range z p a b => some (.code (.range z p a b) :: k, fr)
    | .ops l :: k => match l with
      | [] => runK tm n c k fr
      | o :: l => match c with
        | 0 => some (.ops (o :: l) :: k, fr)
        | c + 1 => match stepF true tm o fr with
          | some fr' => runK tm n c (.ops l :: k) fr'
          | none => none

section
variable {X : Cx} {k k' : List KJ} {tm tm' : Fr} {st : Store}

theorem W.code {c : ACode} : W X (.code c :: k) tm st ↔ XS X.P X.E X.N X.mu c (wQ X k) tm st := by simp only [W, wQ, thenQ_normal]
theorem W.ops {l : List AOp} : W X (.ops l :: k) tm st ↔ xOps X.P X.E l (wQ X k .normal) tm st := by simp only [W, wQ, thenQ_normal]
theorem W.lp {b : ACode} : W X (.lp b :: k) tm st ↔ XLoop X.P X.E X.N X.mu b (wQ X k) tm st := by simp only [W, wQ, thenQ_normal]
theorem W.blk {i : Nat} : W X (.blk i :: k) tm st ↔ W X k tm st := by simp only [W, wQ, blockQ_normal]
theorem W.exit {i : Nat} : ∀ {k : List KJ}, jdrop k i = some k' → W X k' tm st → wQ X k (.exit i) tm st
  | [], h, _ => by simp [jdrop] at h
  | .code c :: k, h, hn => by
    simp only [jdrop] at h
    simp only [wQ, thenQ_exit]; exact W.exit h hn
  | .ops c :: k, h, hn => by
    simp only [jdrop] at h
    simp only [wQ, thenQ_exit]; exact W.exit h hn
  | .lp c :: k, h, hn => by
    simp only [jdrop] at h
    simp only [wQ, thenQ_exit]; exact W.exit h hn
  | .blk id :: k, h, hn => by
    simp only [jdrop] at h
    simp only [wQ, blockQ]
    by_cases e : i = id
    · subst e
      have : Nat.beq i i = true := Nat.beq_refl i
      rw [this] at h
      cases h
      rw [if_pos rfl]; exact hn
    · have : Nat.beq i id = false := by cases e' : Nat.beq i id with
        | false => rfl
        | true => exact absurd (Nat.eq_of_beq_eq_true e') e
      rw [this] at h
      rw [if_neg e]
      exact W.exit h hn
theorem wQ_ret (tm : Fr) (st : Store) : ∀ k, wQ X k .ret tm st = X.fin .ret tm st
  | [] => rfl
  | .code c :: k => by simp only [wQ, thenQ_ret, wQ_ret tm st k]
  | .ops c :: k => by simp only [wQ, thenQ_ret, wQ_ret tm st k]
  | .blk id :: k => by simp only [wQ, blockQ_ret, wQ_ret tm st k]
  | .lp b :: k => by simp only [wQ, thenQ_ret, wQ_ret tm st k]

theorem W.po {i : AI} {v : AV} {st' : Store} {l : List AOp} {d : Nat} (h : evalAI X.E tm st i = some (v, st')) (hk : W X (.ops l :: k) (upd tm d v) st') : W X (.ops (⟨.some d, .none, .plain i⟩ :: l) :: k) tm st := by
  rw [W.ops] at hk ⊢
  simp only [xOps_plain, h, XO_some, put_upd]; exact hk
theorem W.o0 {i : AI} {v : AV} {st' : Store} {l : List AOp} (h : evalAI X.E tm st i = some (v, st')) (hk : W X (.ops l :: k) tm st') : W X (.ops (⟨.none, .none, .plain i⟩ :: l) :: k) tm st := by
  rw [W.ops] at hk ⊢
  simp only [xOps_plain, h, XO_some, put_none]; exact hk
theorem W.poff' {g : Nat} {b : Bool} {i : AK} {l : List AOp} {d : Nat} {vs : List AV} (hg : tm g = .tup vs) (hk : W X (.ops l :: k) (upd tm d (.tup [])) st) : W X (.ops (⟨.some d, .some (g, b), i⟩ :: l) :: k) tm st := by
  rw [W.ops] at hk ⊢
  simp only [xOps_guard, hg, XG_tup, put_upd]; exact hk
theorem W.poff {g : Nat} {b t : Bool} {i : AK} {l : List AOp} {d : Nat} (hg : tm g = .bool t) (ht : t = !b) (hk : W X (.ops l :: k) (upd tm d (.tup [])) st) : W X (.ops (⟨.some d, .some (g, b), i⟩ :: l) :: k) tm st := by
  subst ht
  rw [W.ops] at hk ⊢
  cases b
  · simp only [xOps_guard, hg, Bool.not_false, XG_tf, put_upd]; exact hk
  · simp only [xOps_guard, hg, Bool.not_true, XG_ft, put_upd]; exact hk
theorem W.on {d : Option Nat} {g : Nat} {b t : Bool} {i : AK} {l : List AOp} (hg : tm g = .bool t) (ht : t = b) (hk : W X (.ops (⟨d, .none, i⟩ :: l) :: k) tm st) : W X (.ops (⟨d, .some (g, b), i⟩ :: l) :: k) tm st := by
  subst ht
  rw [W.ops] at hk ⊢
  simp only [xOps_guard, hg, XG_run]; exact hk

variable {fr : List (Nat × AV)}
theorem W.o {i : AI} {v : AV} {st' : Store} {l : List AOp} {d : Nat} (h : evalAI X.E (updL tm fr) st i = some (v, st')) (hk : W X (.ops l :: k) (updL tm ((d, v) :: fr)) st') : W X (.ops (⟨.some d, .none, .plain i⟩ :: l) :: k) (updL tm fr) st := W.po h hk
theorem W.off {g : Nat} {b t : Bool} {i : AK} {l : List AOp} {d : Nat} (hg : updL tm fr g = .bool t) (ht : t = !b) (hk : W X (.ops l :: k) (updL tm ((d, .tup []) :: fr)) st) : W X (.ops (⟨.some d, .some (g, b), i⟩ :: l) :: k) (updL tm fr) st := W.poff hg ht hk

theorem isTrue_bool {v : Option AV} {t : Bool} (h : isTrue? v = some (some t)) : v = some (.bool t) := by
  unfold isTrue? at h
  split at h
  · split at h
    · rename_i t'
      cases t' <;> simp at h <;> subst h <;> rfl
    · split at h <;> simp at h
    · cases h
  · cases h
theorem isTrue_tup {v : Option AV} (h : isTrue? v = some none) : v = some (.tup []) := by
  unfold isTrue? at h
  split at h
  · split at h
    · rename_i t'
      cases t' <;> simp at h
    · split at h
      · rfl
      · cases h
    · cases h
  · cases h
theorem stepF_cases {w : Bool} {tm : Fr} {o : AOp} {fr fr' : List (Nat × AV)} (h : stepF w tm o fr = some fr') : ∃ d v, fr' = (d, v) :: fr ∧
    ((∃ g b i, o = ⟨some d, some (g, b), i⟩ ∧ v = .tup [] ∧ (updL tm fr g = .tup [] ∨ updL tm fr g = .bool (!b)) ∧ (w = true ∨ bornN ⟨some d, none, i⟩ = 0)) ∨ (∃ g b i, o = ⟨some d, some (g, b), .plain i⟩ ∧ updL tm fr g = .bool b ∧ stepV tm i fr = some v) ∨ ∃ i, o = ⟨some d, none, .plain i⟩ ∧ stepV tm i fr = some v) := by
  obtain ⟨d, g, i⟩ := o
  cases d with
  | none => simp [stepF] at h
  | some d =>
    cases g with
    | some gb =>
      obtain ⟨g, b⟩ := gb
      simp only [stepF] at h
      split at h
      · rename_i z hw
        cases z with
        | none =>
          simp only [cond_eq_ite] at h
          split at h
          · rename_i hb
            cases h
            exact ⟨d, _, rfl, .inl ⟨g, b, i, rfl, rfl, .inl (look_eq (isTrue_tup hw)), by simpa using hb⟩⟩
          · cases h
        | some t =>
          have hl := look_eq (tm := tm) (isTrue_bool hw)
          simp only at h
          split at h
          · rename_i e
            have e : t = b := by simpa using e
            subst e
            cases i with
            | call f xs => cases h
            | callv f xs => cases h
            | plain i =>
              simp only at h
              split at h
              · rename_i v hv
                cases h
                exact ⟨d, v, rfl, .inr (.inl ⟨g, t, i, rfl, hl, hv⟩)⟩
              · cases h
          · rename_i e
            have e : t = !b := by cases t <;> cases b <;> simp_all
            simp only [cond_eq_ite] at h
            split at h
            · rename_i hb
              cases h
              exact ⟨d, _, rfl, .inl ⟨g, b, i, rfl, rfl, .inr (by rw [hl, e]), by simpa using hb⟩⟩
            · cases h
      · cases h
    | none =>
      cases i with
      | call f xs => simp [stepF] at h
      | callv f xs => simp [stepF] at h
      | plain i =>
        simp only [stepF] at h
        split at h
        · rename_i v hv
          cases h
          exact ⟨d, v, rfl, .inr (.inr ⟨i, rfl, hv⟩)⟩
        · cases h
theorem stepF_sound {o : AOp} {l : List AOp} {fr fr' : List (Nat × AV)} (h : stepF true tm o fr = some fr') (hk : W X (.ops l :: k) (updL tm fr') st) : W X (.ops (o :: l) :: k) (updL tm fr) st := by
  obtain ⟨d, v, rfl, hc⟩ := stepF_cases h
  rcases hc with ⟨g, b, i, rfl, rfl, hg | hg, _⟩ | ⟨g, b, i, rfl, hg, hv⟩ | ⟨i, rfl, hv⟩
  · exact W.poff' hg hk
  · exact W.off hg rfl hk
  · exact W.on hg rfl (W.o (stepV_eval hv) hk)
  · exact W.o (stepV_eval hv) hk

theorem runK_sound : ∀ (n c : Nat) (k : List KJ) (fr : List (Nat × AV)) (k' : List KJ) (fr' : List (Nat × AV)), runK tm n c k fr = some (k', fr') → W X k' (updL tm fr') st → W X k (updL tm fr) st
  | 0, c, k, fr, k', fr', h, _ => by simp [runK] at h
  | n + 1, c, [], fr, k', fr', h, hk => by simp only [runK] at h; cases h; exact hk
  | n + 1, c, .lp b :: k, fr, k', fr', h, hk => by simp only [runK] at h; cases h; exact hk
  | n + 1, c, .blk i :: k, fr, k', fr', h, hk => by
    simp only [runK] at h
    exact W.blk.2 (runK_sound n c k fr k' fr' h hk)
  | n + 1, c, .code x :: k, fr, k', fr', h, hk => by
    cases x <;> simp only [runK] at h
    case seq a b =>
      have := runK_sound n c _ fr k' fr' h hk
      rw [W.code] at this ⊢
      exact XS.seq this
    case skip =>
      rw [W.code]
      exact XS.of (by rw [xCode_skip]; exact runK_sound n c _ fr k' fr' h hk)
    case ops l =>
      have := runK_sound n c _ fr k' fr' h hk
      rw [W.ops] at this
      rw [W.code]
      exact XS.of (by rw [xCode_ops]; exact this)
    case block i b =>
      have := runK_sound n c _ fr k' fr' h hk
      rw [W.code] at this ⊢
      exact XS.block this
    case loop b =>
      cases h
      rw [W.lp] at hk
      rw [W.code]
      exact XS.of (by rw [xCode_loop]; exact hk)
    case exit i =>
      split at h
      · rename_i k2 h2
        rw [W.code]
        exact XS.of (by rw [xCode_exit]; exact W.exit h2 (runK_sound n c k2 fr k' fr' h hk))
      · cases h
    case cond z a b => cases h; exact hk
    case ret => cases h; exact hk
    case draw s m b q u => cases h; exact hk
    case range z p a b => cases h; exact hk
  | n + 1, c, .ops [] :: k, fr, k', fr', h, hk => by
    simp only [runK] at h
    rw [W.ops, xOps_nil]
    exact runK_sound n c k fr k' fr' h hk
  | n + 1, 0, .ops (o :: l) :: k, fr, k', fr', h, hk => by simp only [runK] at h; cases h; exact hk
  | n + 1, c + 1, .ops (o :: l) :: k, fr, k', fr', h, hk => by
    simp only [runK] at h
    split at h
    · rename_i fr2 h2
      exact stepF_sound h2 (runK_sound n c _ _ k' fr' h hk)
    · cases h
theorem rn (c : Nat) {fr' : List (Nat × AV)} (h : runK tm 400 c k fr = some (k', fr')) (hk : W X k' (updL tm fr') st) : W X k (updL tm fr) st := runK_sound 400 c k fr k' fr' h hk

def ctl : Nat → List KJ → Option (List KJ)
  | 0, k => some k
  | m + 1, k => match k with
    | .blk _ :: k => ctl m k
    | .ops l :: k => match l with
      | [] => ctl m k
      | _ :: _ => none
    | .code x :: k => match x with
      | .seq a b => ctl m (.code a :: .code b :: k)
      | .skip => ctl m k
      | .ops l => ctl m (.ops l :: k)
      | .block i b => ctl m (.code b :: .blk i :: k)
      | .exit i => match jdrop k i with
        | some k' => ctl m k'
        | none => none
      | _ => none
    | _ => none
theorem ctl_sound : ∀ (m : Nat) (k : List KJ) (k' : List KJ), ctl m k = some k' → W X k' tm st → W X k tm st
  | 0, k, k', h, hk => by simp only [ctl] at h; cases h; exact hk
  | m + 1, [], k', h, hk => by simp [ctl] at h
  | m + 1, .lp b :: k, k', h, hk => by simp [ctl] at h
  | m + 1, .blk i :: k, k', h, hk => by
    simp only [ctl] at h
    exact W.blk.2 (ctl_sound m k k' h hk)
  | m + 1, .ops [] :: k, k', h, hk => by
    simp only [ctl] at h
    rw [W.ops, xOps_nil]
    exact ctl_sound m k k' h hk
  | m + 1, .ops (_ :: _) :: k, k', h, hk => by simp [ctl] at h
  | m + 1, .code x :: k, k', h, hk => by
    cases x <;> simp only [ctl] at h
    case seq a b =>
      have := ctl_sound m _ k' h hk
      rw [W.code] at this ⊢
      exact XS.seq this
    case skip =>
      rw [W.code]
      exact XS.of (by rw [xCode_skip]; exact ctl_sound m _ k' h hk)
    case ops l =>
      have := ctl_sound m _ k' h hk
      rw [W.ops] at this
      rw [W.code]
      exact XS.of (by rw [xCode_ops]; exact this)
    case block i b =>
      have := ctl_sound m _ k' h hk
      rw [W.code] at this ⊢
      exact XS.block this
    case exit i =>
      split at h
      · rename_i k2 h2
        rw [W.code]
        exact XS.of (by rw [xCode_exit]; exact W.exit h2 (ctl_sound m k2 k' h hk))
      · cases h
    all_goals cases h
def runJ (tm : Fr) (m : Nat) : Nat → Nat → List KJ → List (Nat × AV) → Option (List KJ × List (Nat × AV))
  | 0, _, _, _ => none
  | n + 1, c, k, fr => match c with
    | 0 => match ctl m k with
      | some k' => some (k', fr)
      | none => none
    | c + 1 => match k with
      | .ops l :: k => match l with
        | [] => runJ tm m n (c + 1) k fr
        | o :: l => match stepF true tm o fr with
          | some fr' => runJ tm m n c (.ops l :: k) fr'
          | none => none
      | k => match ctl 1 k with
        | some k' => runJ tm m n (c + 1) k' fr
        | none => none
theorem runJ_sound {m : Nat} : ∀ (n c : Nat) (k : List KJ) (fr : List (Nat × AV)) (k' : List KJ) (fr' : List (Nat × AV)), runJ tm m n c k fr = some (k', fr') → W X k' (updL tm fr') st → W X k (updL tm fr) st
  | 0, c, k, fr, k', fr', h, _ => by simp [runJ] at h
  | n + 1, 0, k, fr, k', fr', h, hk => by
    simp only [runJ] at h
    split at h
    · rename_i k2 h2; cases h; exact ctl_sound m k _ h2 hk
    · cases h
  | n + 1, c + 1, k, fr, k', fr', h, hk => by
    simp only [runJ] at h
    split at h
    · rename_i k0 l k2
      cases l with
      | nil =>
        rw [W.ops, xOps_nil]
        exact runJ_sound n (c + 1) _ fr k' fr' h hk
      | cons o l =>
        simp only at h
        split at h
        · rename_i fr2 h2
          exact stepF_sound h2 (runJ_sound n c _ _ k' fr' h hk)
        · cases h
    · split at h
      · rename_i k2 h2
        exact ctl_sound 1 _ k2 h2 (runJ_sound n (c + 1) k2 fr k' fr' h hk)
      · cases h
theorem rj (c m : Nat) {fr' : List (Nat × AV)} (h : runJ tm m 400 c k fr = some (k', fr')) (hk : W X k' (updL tm fr') st) : W X k (updL tm fr) st := runJ_sound 400 c k fr k' fr' h hk

theorem cd {z : AX} {x y : ACode} {t : Bool} (hz : tm.x z = .bool t) (h1 : t = true → W X (.code x :: k) tm st) (h2 : t = false → W X (.code y :: k) tm st) : W X (.code (.cond z x y) :: k) tm st := by
  simp only [W.code] at h1 h2 ⊢
  exact XS.cond hz h1 h2
theorem ct {z : AX} {x y : ACode} {t : Bool} (hz : tm.x z = .bool t) (ht : t = true) (h1 : W X (.code x :: k) tm st) : W X (.code (.cond z x y) :: k) tm st := cd hz (fun _ => h1) fun e => by rw [ht] at e; cases e
theorem cf {z : AX} {x y : ACode} {t : Bool} (hz : tm.x z = .bool t) (ht : t = false) (h1 : W X (.code y :: k) tm st) : W X (.code (.cond z x y) :: k) tm st := cd hz (fun e => by rw [ht] at e; cases e) fun _ => h1
theorem lp {b : ACode} (h : W X (.code b :: .lp b :: k) tm st) : W X (.lp b :: k) tm st := by
  rw [W.code] at h
  rw [W.lp]
  exact XLoop.once h
theorem rfin (h : X.fin .ret tm st) : W X (.code .ret :: k) tm st := by
  rw [W.code]
  exact XS.of (by rw [xCode_ret, wQ_ret]; exact h)
theorem rt {P : Program} {E : Glob} {N : Nat} {mu : Nat → Bool} {res : List RA} {K : AV → Store → Prop} {vs : List AV} (h : resL E tm st res = some vs) (hk : K (pack vs) st) : W ⟨P, E, N, mu, res, K, endQ E res K⟩ (.code .ret :: k) tm st :=
  rfin (by show endQ E res K .ret tm st; rw [endQ_ret, h, XR_some]; exact hk)
theorem re {P : Program} {E : Glob} {N : Nat} {mu : Nat → Bool} {res : List RA} {K : AV → Store → Prop} {vs : List AV} (h : resL E tm st res = some vs) (hk : K (pack vs) st) : W ⟨P, E, N, mu, res, K, endQ E res K⟩ [] tm st := by
  simp only [W, wQ, endQ_normal, h, XR_some]; exact hk

theorem en {l : List (Nat × AV)} (hf : Frm tm l) (h : W X k (updL tm l) st) : W X k tm st := by rw [Frm.eq hf] at h; exact h
theorem wkl (hw : Weak tm tm') {c : ACode} (h : W X (.lp c :: k) tm' st) : W X (.lp c :: k) tm st := by
  rw [W.lp] at h ⊢; exact XLoop.weak hw h
end
end Go.Proofs.YtcidnoghoifmmaaDoor.AW
end
section
/-
  A function's walk: one rule for each kind of operation, over what is known of the store part by part.
-/

set_option linter.unusedVariables false
namespace Go.Proofs.YtcidnoghoifmmaaDoor.AW
open Go

class DtV (v : AV) : Prop where h : DS v v
class DtL (cs : List AV) : Prop where h : DSL cs cs
class DtF {α : Type} (f : α → AV) : Prop where h : ∀ x, DS (f x) (f x)
instance (k : IntKind) (n : Int) : DtV (.int k n) := ⟨ds_i⟩
instance (b : Bool) : DtV (.bool b) := ⟨ds_b⟩
instance (s : Str) : DtV (.str s) := ⟨ds_s⟩
instance : DtV .nils := ⟨⟨rfl, rfl⟩⟩
instance : DtV .nilptr := ⟨⟨rfl, rfl⟩⟩
instance (cs : List AV) [h : DtL cs] : DtV (.agg cs) := ⟨ds_agg h.h⟩
instance (cs : List AV) [h : DtL cs] : DtV (.tup cs) := ⟨ds_tup h.h⟩
instance : DtL [] := ⟨dsl_nil⟩
instance (v : AV) (l : List AV) [h : DtV v] [hl : DtL l] : DtL (v :: l) := ⟨dsl_cons h.h hl.h⟩
instance (a b : List AV) [h : DtL a] [hl : DtL b] : DtL (a ++ b) := ⟨dsl_app h.h hl.h⟩
instance (k : IntKind) (n : Int) : DtL (cI k n) := ⟨cI_ds k n⟩
instance (b : Bool) : DtL (cB b) := ⟨cB_ds b⟩
instance (s : Str) : DtL (cS s) := ⟨cS_ds s⟩
instance (k : IntKind) : DtF (AV.int k) := ⟨fun _ => ds_i⟩
instance : DtF AV.bool := ⟨fun _ => ds_b⟩
instance : DtF AV.str := ⟨fun _ => ds_s⟩
instance {α : Type} (es : Nat) (f : α → AV) [h : DtF f] : DtF (slV es f) := ⟨fun o => ds_sl h.h⟩
instance {α : Type} (es : Nat) (f : α → AV) (o : Sl α) [h : DtF f] : DtV (slV es f o) := ⟨ds_sl h.h⟩
theorem dsw {α : Type} {es : Nat} {f : α → AV} {o : Sl α} {id : Nat} [h : DtF f] : DS (ownV es f o id) (slV es f o) := ds_own h.h
section
variable {E : Glob} {tm : Fr} {st : Store} {x y i a : AX}
theorem l1 {id off : Nat} {cs : List AV} {v : AV} (hp : tm.x a = .ptr id off) (ho : st[id]? = some (.cells cs)) (hc : cs[off]? = some v) : evalAI E tm st (.load1 a) = some (v, st) := by
  simp only [ev_load1, hp, cellsAt, ho]
  have := (List.getElem?_eq_some_iff.1 hc).1
  rw [if_pos (by omega)]
  simp only [obind_some]
  rw [List.headD_eq_head?_getD, List.head?_take, if_neg (by decide), List.head?_drop, hc]; rfl
theorem lN {id off n : Nat} {cs s : List AV} (hp : tm.x a = .ptr id off) (ho : st[id]? = some (.cells cs)) (hb : Nat.ble (off + n) cs.length = true) (hc : (cs.drop off).take n = s) : evalAI E tm st (.loadN n a) = some (.agg s, st) := by
  simp only [ev_loadN, hp, cellsAt, ho]
  rw [if_pos (Nat.le_of_ble_eq_true hb), hc]; rfl
theorem l1D {cs : List AV} {v : AV} (hp : tm.x a = .dptr cs) (hc : cs[0]? = some v) : evalAI E tm st (.load1 a) = some (v, st) := by
  cases cs with
  | nil => simp at hc
  | cons z q => simp at hc; subst hc; simp [ev_load1, hp, cellsAt, obind]
theorem lND {n : Nat} {cs s : List AV} (hp : tm.x a = .dptr cs) (hb : Nat.ble n cs.length = true) (hc : cs.take n = s) : evalAI E tm st (.loadN n a) = some (.agg s, st) := by
  simp only [ev_loadN, hp, cellsAt]
  rw [if_pos (Nat.le_of_ble_eq_true hb), hc]; rfl
theorem bd {z cs : List AV} {ps : List (Nat × Nat × AX)} {l : List (Nat × List AV)} (h : partsOk z.length ps tm = some l) (hf : fillA z l = cs) : evalAI E tm st (.build z ps) = some (.agg cs, st) := e_build h hf
theorem pk {total off size : Nat} {x : AX} {cs : List AV} {rest : List (Nat × Nat × AX)} {l : List (Nat × List AV)} (hc : (tm.x x).cells = cs) (hl : Nat.beq cs.length size = true) (ho : Nat.ble (off + size) total = true) (h : partsOk total rest tm = some l) : partsOk total ((off, size, x) :: rest) tm = some ((off, cs) :: l) :=
  pk_cons rfl hc (Nat.eq_of_beq_eq_true hl) (Nat.le_of_ble_eq_true ho) h
def fitP (total : Nat) : List (Nat × Nat × AX) → Fr → Bool
  | [], _ => true
  | (off, size, x) :: rest, tm => Nat.beq (tm.x x).cells.length size && (Nat.ble (off + size) total && fitP total rest tm)
def valP : List (Nat × Nat × AX) → Fr → List (Nat × List AV)
  | [], _ => []
  | (off, _, x) :: rest, tm => (off, (tm.x x).cells) :: valP rest tm
theorem fitP_ok {total : Nat} : ∀ {ps : List (Nat × Nat × AX)}, fitP total ps tm = true → partsOk total ps tm = some (valP ps tm)
  | [], _ => rfl
  | (off, size, x) :: rest, h => by
    simp only [fitP, Bool.and_eq_true] at h
    simp only [partsOk, valP, fitP_ok h.2.2]
    rw [if_pos ⟨Nat.eq_of_beq_eq_true h.1, Nat.le_of_ble_eq_true h.2.1⟩]; rfl
theorem bR {z cs : List AV} {ps : List (Nat × Nat × AX)} (h : fitP z.length ps tm = true) (hf : fillA z (valP ps tm) = cs) : evalAI E tm st (.build z ps) = some (.agg cs, st) := e_build (fitP_ok h) hf
end

section
variable {X : Cx} {k : List KJ} {tm : Fr} {fr : List (Nat × AV)} {st : Store} {l suf : List AOp} {d : Nat} {st0 : Store} {mr r : Nat} {x y i a : AX} {L L0 L' L0' : List Asn}

theorem al {z cs : List AV} (hs : SH st L) (h : z = cs) (hk : ∀ st id, SH st (pt id (.cells cs) :: L) → W X (.ops l :: k) (updL tm ((d, (.ptr id 0)) :: fr)) st) : W X (.ops (⟨.some d, .none, .plain (.alloc z)⟩ :: l) :: k) (updL tm fr) st :=
  W.po (e_alloc z cs h) (hk _ _ (hs.push _))
theorem bx {n : Nat} {cs : List AV} (hs : SH st L) (hx : ((updL tm fr).x x).cells = cs) (hn : Nat.beq cs.length n = true) (hk : ∀ st id, SH st (pt id (.cells cs) :: L) → W X (.ops l :: k) (updL tm ((d, (.ptr id 0)) :: fr)) st) : W X (.ops (⟨.some d, .none, .plain (.box n x)⟩ :: l) :: k) (updL tm fr) st :=
  W.po (e_box hx (Nat.eq_of_beq_eq_true hn)) (hk _ _ (hs.push _))
def stOk (cs : List AV) (off n : Nat) (v : AV) : Bool := Nat.beq v.cells.length n && (Nat.ble (off + n) cs.length && v.cells.all AV.one)
theorem sr {id off n : Nat} {cs cs' : List AV} (hs : SH st L) (j : Nat) (hp : (updL tm fr).x a = .ptr id off) (hj : L[j]? = some (pt id (.cells cs))) (hk1 : stOk cs off n ((updL tm fr).x x) = true) (hc : cs.take off ++ ((updL tm fr).x x).cells ++ cs.drop (off + n) = cs')
    (hL : setL L j (pt id (.cells cs')) = some L') (hk : ∀ st, SH st L' → W X (.ops l :: k) (updL tm fr) st) : W X (.ops (⟨.none, .none, .plain (.store n a x)⟩ :: l) :: k) (updL tm fr) st := by
  simp only [stOk, Bool.and_eq_true] at hk1
  subst hc
  refine W.o0 (v := .tup []) ?_ (hk _ (setL_eq hL ▸ hs.set hj _))
  have ho := hs.g j hj
  simp only [ev_store, hp, asPtr_is, ho, asC_is]
  rw [if_pos ⟨Nat.eq_of_beq_eq_true hk1.1, Nat.le_of_ble_eq_true hk1.2.1, hk1.2.2⟩]
theorem sl {id off n : Nat} {cs s s' cs' : List AV} (hs : SH st L) (j : Nat) (hp : (updL tm fr).x a = .ptr id off) (hj : L[j]? = some (pt id (.cells cs))) (hl : LR cs off s s' cs') (hn : s.length = n) (hx : ((updL tm fr).x x).cells = s') (hn' : s'.length = n) (h1 : s'.all AV.one = true)
    (hL : setL L j (pt id (.cells cs')) = some L') (hk : ∀ st, SH st L' → W X (.ops l :: k) (updL tm fr) st) : W X (.ops (⟨.none, .none, .plain (.store n a x)⟩ :: l) :: k) (updL tm fr) st :=
  W.o0 (e_store hp (hs.g j hj) hl hn hx hn' h1) (hk _ (setL_eq hL ▸ hs.set hj _))
theorem ap {α : Type} {es bytes : Nat} {f : α → AV} {o : Sl α} {id : Nat} {ys : List α} (hs : SH st L) (j : Nat) (hj : L[j]? = some (ownA id o)) (hx : (updL tm fr).x x = ownV es f o id) (hy : appElems es st ((updL tm fr).x y) = some (ys.map f)) (hb : ((ls o).length + ys.length) * bytes ≤ 140737488355328)
    {L' : Nat → List Asn} (hL : ∀ id, setL L j (ownA id (sapp o ys)) = some (L' id)) (hk : ∀ st id, SH st (L' id) → W X (.ops l :: k) (updL tm ((d, (ownV es f (sapp o ys) id)) :: fr)) st) : W X (.ops (⟨.some d, .none, .plain (.app es bytes x y)⟩ :: l) :: k) (updL tm fr) st := by
  obtain ⟨id', st', h1, h2⟩ := hs.app (E := X.E) (bytes := bytes) hj hx hy hb
  exact W.po h1 (hk _ _ (setL_eq (hL id') ▸ h2))
theorem bs {α : Type} {f : α → AV} {es len : Nat} {ag : Bool} {zero : List AV} {parts : List (Nat × Nat × AX)} (m : List α) (hs : SH st L) (hp : fitP (len * es) parts (updL tm fr) = true) (hf : (chunks es len (fillA (rep0 zero len) (valP parts (updL tm fr)))).map (ofCells ag) = m.map f)
    (h1 : (fillA (rep0 zero len) (valP parts (updL tm fr))).all AV.one = true) (hl : Nat.beq m.length len = true) (hk : ∀ st id, SH st (ownA id (some m) :: L) → W X (.ops l :: k) (updL tm ((d, (ownV es f (some m) id)) :: fr)) st) : W X (.ops (⟨.some d, .none, .plain (.bslice es len ag zero parts false)⟩ :: l) :: k) (updL tm fr) st :=
  W.po (e_bslice (fitP_ok hp) hf h1 (Nat.eq_of_beq_eq_true hl)) (hk _ _ (hs.push _))
theorem cb {α : Type} {es : Nat} {f : α → AV} {m : List α} {id : Nat} (hs : SH st L) (j : Nat) (hj : L[j]? = some (ownA id (some m))) (hx : (updL tm fr).x x = ownV es f (some m) id) (hk : W X (.ops l :: k) (updL tm ((d, (ownV es f (some m) id)) :: fr)) st) : W X (.ops (⟨.some d, .none, .plain (.cvB x)⟩ :: l) :: k) (updL tm fr) st :=
  W.po (by simp only [evalAI, hx, ownV, hs.g j hj, List.length_map, if_true]) hk

theorem df {f : FuncId} {xs : List AX} {ds : List AV} {v : AV} (h : DFun X.P X.E f ds v) [hd : DtL ds] (ha : xs.map (updL tm fr).x = ds) (hk : W X (.ops l :: k) (updL tm ((d, v) :: fr)) st) : W X (.ops (⟨.some d, .none, .call f xs⟩ :: l) :: k) (updL tm fr) st := by
  rw [W.ops] at hk ⊢
  simp only [xOps_call]
  exact xc_fun h (by rw [ha]; exact hd.h.1) (by rw [ha]; exact hd.h.2) (by rw [put_upd]; exact hk)
theorem ale {l l' : List AV} (h : l = l') : ArgL l l' := fun _ _ hr => h ▸ hr
theorem cl {f : FuncId} {xs : List AX} {ds : List AV} (ha : ArgL (xs.map (updL tm fr).x) ds) (h : XCall X.P X.E f ds st fun v st => W X (.ops l :: k) (updL tm ((d, v) :: fr)) st) : W X (.ops (⟨.some d, .none, .call f xs⟩ :: l) :: k) (updL tm fr) st := by
  rw [W.ops]
  simp only [xOps_call, XC, put_upd]
  exact xcall_arg ha (h.mono fun v st' hw => W.ops.1 hw)
theorem cv {f : AX} {g : FuncId} {caps : List AV} {xs : List AX} {ds : List AV} (hf : (updL tm fr).x f = .fn g caps) (hc : callable X.P g = true) (ha : ArgL (xs.map (updL tm fr).x ++ caps) ds) (h : XCall X.P X.E g ds st fun v st => W X (.ops l :: k) (updL tm ((d, v) :: fr)) st) : W X (.ops (⟨.some d, .none, .callv f xs⟩ :: l) :: k) (updL tm fr) st := by
  rw [W.ops, xOps_callv, hf]
  refine ⟨hc, xcall_arg ha (h.mono fun v st' hw => ?_)⟩
  rw [put_upd]; exact W.ops.1 hw
theorem mkS {α : Type} (f : α → AV) (hs : SH st L) (hk : ∀ st id, SH st (pt id (.map none (mS f Mp.empty) (Mp.empty : Mp Str α).n) :: L) → W X (.ops l :: k) (updL tm ((d, (.mp id)) :: fr)) st) : W X (.ops (⟨.some d, .none, .plain (.mkmap none)⟩ :: l) :: k) (updL tm fr) st :=
  W.po (v := .mp st.length) (st' := st ++ [.map none (mS f Mp.empty) 0]) (by simp only [evalAI, mS_empty]) (hk _ _ (hs.push _))
theorem msS {m q : AX} {α : Type} {f : α → AV} {id : Nat} {key : Str} (v : α) {M : Mp Str α} (hs : SH st L) (j : Nat) (hm : (updL tm fr).x m = .mp id) (hj : L[j]? = some (pt id (.map none (mS f M) M.n))) (hq : (updL tm fr).x q = .str key) (hx : (updL tm fr).x x = f v)
    (hL : setL L j (pt id (.map none (mS f (M.put key v)) (M.put key v).n)) = some L') (hk : ∀ st, SH st L' → W X (.ops l :: k) (updL tm fr) st) : W X (.ops (⟨.none, .none, .plain (.mapset none m q x)⟩ :: l) :: k) (updL tm fr) st := by
  have ho := hs.g j hj
  refine W.o0 (st' := st.set id (.map none (mS f (M.put key v)) (M.put key v).n)) (v := .tup []) ?_ (hk _ (setL_eq hL ▸ hs.set hj _))
  simp only [evalAI, hm, hq, keyOf, ho, if_true, hx, mS_put]
  have : (mS f M (.s key)).isNone = (M.get key).isNone := by simp only [mS, Option.isNone_map]
  simp only [this, Mp.put]
theorem dr0 {mr : Nat} {q suf : List AOp} (h : WD X st mr q 0 suf k (updL tm fr) st) : W X (.code (.draw [] mr 0 q suf) :: k) (updL tm fr) st := by
  rw [W.code]
  exact XS.of (by rw [xCode_draw]; simpa [maskS, WD, sufK] using h)
theorem drn {mr nb : Nat} {q suf : List AOp} (hs : SH st L) (h : ∀ s0 st' : Store, SH s0 L → SH st' (ptU s0.length nb 0 ++ L) → WD X s0 mr q 0 suf k (updL tm fr) st') : W X (.code (.draw [] mr nb q suf) :: k) (updL tm fr) st := by
  rw [W.code]
  exact XS.of (by rw [xCode_draw]; simpa [maskS, WD, sufK] using h _ _ hs (hs.unborn nb))
theorem dr1 {mr nb : Nat} {q suf : List AOp} {id off : Nat} {o : List AV} (hs : SH st L) (j : Nat) (ha : (updL tm fr).x a = .ptr id off) (hj : L[j]? = some (pt id (.cells o))) (hL : setL L j (pt id .hid) = some L0')
    (h : ∀ s0 st' : Store, SH s0 L0' → SH st' (ptU s0.length nb 0 ++ L) → WD X s0 mr q 0 suf k (updL tm fr) st') : W X (.code (.draw [a] mr nb q suf) :: k) (updL tm fr) st := by
  rw [W.code]
  have := h (st.set id .hid) (st ++ List.replicate nb .unborn) (setL_eq hL ▸ hs.set hj _) (by rw [List.length_set]; exact hs.unborn nb)
  have hc : aliveC st id = true := by unfold aliveC; rw [hs.g j hj]
  exact XS.of (by rw [xCode_draw]; simpa [maskS, WD, sufK, ha, hc] using this)
theorem dz (h : W X (.ops suf :: k) (updL tm fr) st) : WD X st0 mr [] r suf k (updL tm fr) st := by
  rw [W.ops] at h
  simp only [WD, lexQ_nil, sufK_app]; exact h
theorem de {i : AI} {v : AV} (hs : i.still = true) (h : evalAI X.E (updL tm fr) st0 i = some (v, st0)) (hk : WD X st0 mr l r suf k (updL tm ((d, v) :: fr)) st) : WD X st0 mr (⟨.some d, .none, .plain i⟩ :: l) r suf k (updL tm fr) st := by
  simp only [WD, lexQ_still _ _ _ _ hs, h, XD_some, put_upd]; exact hk
theorem don {d : Option Nat} {g : Nat} {b t : Bool} {i : AK} (hg : (updL tm fr) g = .bool t) (ht : t = b) (hk : WD X st0 mr (⟨d, .none, i⟩ :: l) r suf k (updL tm fr) st) : WD X st0 mr (⟨d, .some (g, b), i⟩ :: l) r suf k (updL tm fr) st := by
  subst ht
  simp only [WD, lexQ_guard, hg, XDG_run]; exact hk
theorem doff {g : Nat} {b t : Bool} {i : AK} (hg : (updL tm fr) g = .bool t) (ht : t = !b) (hb : bornN ⟨.some d, .none, i⟩ = 0) (hk : WD X st0 mr l r suf k (updL tm ((d, (.tup [])) :: fr)) st) : WD X st0 mr (⟨.some d, .some (g, b), i⟩ :: l) r suf k (updL tm fr) st := by
  subst ht
  cases b
  · simp only [WD, lexQ_guard, hg, Bool.not_false, XDG_tf, put_upd, hb, Nat.add_zero]; exact hk
  · simp only [WD, lexQ_guard, hg, Bool.not_true, XDG_ft, put_upd, hb, Nat.add_zero]; exact hk
theorem doff' {g : Nat} {b : Bool} {i : AK} (hg : (updL tm fr) g = .tup []) (hb : bornN ⟨.some d, .none, i⟩ = 0) (hk : WD X st0 mr l r suf k (updL tm ((d, (.tup [])) :: fr)) st) : WD X st0 mr (⟨.some d, .some (g, b), i⟩ :: l) r suf k (updL tm fr) st := by
  simp only [WD, lexQ_guard, hg, XDG_tup, put_upd, hb, Nat.add_zero]; exact hk
def runD (tm : Fr) : Nat → List AOp → List (Nat × AV) → Option (List AOp × List (Nat × AV))
  | 0, l, fr => some (l, fr)
  | n + 1, l, fr => match l with
    | [] => none
    | o :: l => match stepF false tm o fr with
      | some fr' => runD tm n l fr'
      | none => none
theorem runD_sound : ∀ (n : Nat) (l : List AOp) (fr : List (Nat × AV)) (l' : List AOp) (fr' : List (Nat × AV)), runD tm n l fr = some (l', fr') → WD X st0 mr l' r suf k (updL tm fr') st → WD X st0 mr l r suf k (updL tm fr) st
  | 0, l, fr, l', fr', h, hk => by simp only [runD] at h; cases h; exact hk
  | n + 1, [], fr, l', fr', h, hk => by simp [runD] at h
  | n + 1, o :: l, fr, l', fr', h, hk => by
    simp only [runD] at h
    split at h
    · rename_i fr2 h2
      have hw := runD_sound n _ _ l' fr' h hk
      obtain ⟨d, v, rfl, hc⟩ := stepF_cases h2
      rcases hc with ⟨g, b, i, rfl, rfl, hg | hg, hb⟩ | ⟨g, b, i, rfl, hg, hv⟩ | ⟨i, rfl, hv⟩
      · exact doff' hg (by simpa using hb) hw
      · exact doff hg rfl (by simpa using hb) hw
      · exact don hg rfl (de (stepV_still hv) (stepV_eval hv) hw)
      · exact de (stepV_still hv) (stepV_eval hv) hw
    · cases h
theorem dn {l' : List AOp} {fr' : List (Nat × AV)} (n : Nat) (h : runD tm n l fr = some (l', fr')) (hk : WD X st0 mr l' r suf k (updL tm fr') st) : WD X st0 mr l r suf k (updL tm fr) st := runD_sound n l fr l' fr' h hk
theorem ddf {f : FuncId} {xs : List AX} {ds : List AV} {v : AV} (h : DFun X.P X.E f ds v) [hd : DtL ds] (ha : xs.map (updL tm fr).x = ds) (hk : WD X st0 mr l r suf k (updL tm ((d, v) :: fr)) st) : WD X st0 mr (⟨.some d, .none, .call f xs⟩ :: l) r suf k (updL tm fr) st := by
  simp only [WD, lexQ_call]
  exact xdc_fun h (by rw [ha]; exact hd.h.1) (by rw [ha]; exact hd.h.2) (by rw [put_upd]; exact hk)
theorem dal {z cs : List AV} (hs : SH st L) (j : Nat) (h : z = cs) (hj : L[j]? = some (pt (st0.length + r) .unborn))
    (hL : setL L j (pt (st0.length + r) (.cells cs)) = some L') (hk : ∀ st, SH st L' → WD X st0 mr l (r + 1) suf k (updL tm ((d, (.ptr (st0.length + r) 0)) :: fr)) st) : WD X st0 mr (⟨.some d, .none, .plain (.alloc z)⟩ :: l) r suf k (updL tm fr) st := by
  subst h
  have hu := hs.g j hj
  simp only [WD, lexQ_alloc, Eff.app, Eff.id, hu, Eff.upd, Option.map_some, XDE_some, put_upd]
  exact hk _ (setL_eq hL ▸ hs.set hj _)
theorem dbs {α : Type} {f : α → AV} {es len : Nat} {ag : Bool} {zero : List AV} {parts : List (Nat × Nat × AX)} (m : List α) (hs : SH st L) (j : Nat) (hp : fitP (len * es) parts (updL tm fr) = true) (hf : (chunks es len (fillA (rep0 zero len) (valP parts (updL tm fr)))).map (ofCells ag) = m.map f)
    (h1 : (fillA (rep0 zero len) (valP parts (updL tm fr))).all AV.one = true) (hl : Nat.beq m.length len = true) (hj : L[j]? = some (pt (st0.length + r) .unborn))
    (hL : setL L j (ownA (st0.length + r) (some m)) = some L') (hk : ∀ st, SH st L' → WD X st0 mr l (r + 1) suf k (updL tm ((d, (ownV es f (some m) (st0.length + r))) :: fr)) st) : WD X st0 mr (⟨.some d, .none, .plain (.bslice es len ag zero parts false)⟩ :: l) r suf k (updL tm fr) st := by
  have hu := hs.g j hj
  have hl' := Nat.eq_of_beq_eq_true hl
  simp only [WD, lexQ_bslice, fitP_ok hp, XDB_some, h1, true_and, Eff.app, Eff.id, hu, Eff.upd, Option.map_some, XDE_some, put_upd, hf]
  have h2 : SH _ (L.set j (ownA (st0.length + r) (some m))) := hs.set hj (.tail m.length)
  have := hk _ (setL_eq hL ▸ h2)
  rw [hl'] at this
  exact this
theorem dst {id off n : Nat} {cs s1 s2 cs' : List AV} (h0 : SH st0 L0) (j0 : Nat) (hs : SH st L) (j : Nat) (hp : (updL tm fr).x a = .ptr id off) (hj0 : L0[j0]? = some (pt id .hid)) (hj : L[j]? = some (pt id (.cells cs))) (hl : LR cs off s1 s2 cs') (hn : s1.length = n) (hc : ((updL tm fr).x x).cells = s2) (hn' : s2.length = n) (h1 : s2.all AV.one = true)
    (hL : setL L j (pt id (.cells cs')) = some L') (hk : ∀ st, SH st L' → WD X st0 mr l r suf k (updL tm fr) st) : WD X st0 mr (⟨.none, .none, .plain (.store n a x)⟩ :: l) r suf k (updL tm fr) st := by
  have hg := hl.get hn
  have hpt := hl.put hn
  have hd := h0.g j0 hj0
  have ho := hs.g j hj
  simp only [WD, lexQ_store, hp, XDS_ptr, hd, true_and, Eff.app, Eff.id, ho, Eff.upd, hc]
  rw [if_pos ⟨hn', hg.1, h1⟩]
  simp only [Option.map_some, XDE_some, put_none, hpt]
  exact hk _ (setL_eq hL ▸ hs.set hj _)
theorem lrx {cs s : List AV} (off n : Nat) (s' : List AV) (hb : Nat.ble (off + n) cs.length = true) (hc : (cs.drop off).take n = s) : LR cs off s s' (cs.take off ++ s' ++ cs.drop (off + n)) :=
  ⟨cs.take off, cs.drop (off + n), by
    subst hc
    rw [List.append_assoc, ← List.drop_drop, List.take_append_drop, List.take_append_drop], rfl, by
    have := Nat.le_of_ble_eq_true hb
    simp; omega⟩
theorem dsr' {id off n : Nat} {cs cs' : List AV} (h0 : SH st0 L0) (j0 : Nat) (hs : SH st L) (j : Nat) (hp : (updL tm fr).x a = .ptr id off) (hj0 : L0[j0]? = some (pt id .hid)) (hj : L[j]? = some (pt id (.cells cs))) (hk1 : stOk cs off n ((updL tm fr).x x) = true) (hc : cs.take off ++ ((updL tm fr).x x).cells ++ cs.drop (off + n) = cs')
    (hL : setL L j (pt id (.cells cs')) = some L') (hk : ∀ st, SH st L' → WD X st0 mr l r suf k (updL tm fr) st) : WD X st0 mr (⟨.none, .none, .plain (.store n a x)⟩ :: l) r suf k (updL tm fr) st := by
  simp only [stOk, Bool.and_eq_true] at hk1
  subst hc
  have hb := Nat.le_of_ble_eq_true hk1.2.1
  exact dst h0 j0 hs j hp hj0 hj (lrx off n _ hk1.2.1 rfl) (by simp; omega) rfl (Nat.eq_of_beq_eq_true hk1.1) hk1.2.2 hL hk
end

def cD (P : Program) (E : Glob) (N : Nat) (res : List RA) (r : AV) (mu : List Nat := []) : Cx := ⟨P, E, N, muL mu, res, isD (fun x => x = r), endQ E res (isD (fun x => x = r))⟩
def cK (P : Program) (E : Glob) (N : Nat) (res : List RA) (K : AV → Store → Prop) (mu : List Nat := []) : Cx := ⟨P, E, N, muL mu, res, K, endQ E res K⟩
theorem W.xs {P : Program} {E : Glob} {N : Nat} {mu : Nat → Bool} {res : List RA} {K : AV → Store → Prop} {c : ACode} {tm : Fr} {st : Store} (h : W ⟨P, E, N, mu, res, K, endQ E res K⟩ [.code c] tm st) : At ⟨P, E, N, mu, res, K, endQ E res K⟩ c [] tm st := W.code.1 h
theorem bD {mu : List Nat} {P : Program} {E : Glob} {f : FuncId} {n : Nat} {c : ACode} {res : List RA} {ds : List AV} {r : AV} (hf : compF P (muL mu) f = some ⟨n, c, res⟩) (hl : Nat.ble ds.length n = true) (h : W (cD P E n res r mu) [.code c] (updL (fun _ => .tup []) (fi ds 0)) []) : DFun P E f ds r :=
  dfun_at hf (Nat.le_of_ble_eq_true hl) (by rw [fi_init]; exact h.xs)
theorem bS {mu : List Nat} {P : Program} {E : Glob} {f : FuncId} {n : Nat} {c : ACode} {res : List RA} {ds : List AV} {st : Store} {K : AV → Store → Prop} (hf : compF P (muL mu) f = some ⟨n, c, res⟩) (hl : Nat.ble ds.length n = true) (h : W (cK P E n res (isK K) mu) [.code c] (updL (fun _ => .tup []) (fi ds 0)) st) : XCall P E f ds st K :=
  xcallO_at hf (Nat.le_of_ble_eq_true hl) (by rw [fi_init]; exact h.xs)
section
variable {P : Program} {E : Glob} {N : Nat} {res : List RA} {k : List KJ} {tm : Fr} {st : Store} {r v : AV} {vs : List AV} {mu : List Nat}
theorem rD [hd : DtV r] (h : resL E tm st res = some vs) (hr : pack vs = r) : W (cD P E N res r mu) (.code .ret :: k) tm st := rt h (by rw [hr]; exact hd.h)
theorem eD [hd : DtV r] (h : resL E tm st res = some vs) (hr : pack vs = r) : W (cD P E N res r mu) [] tm st := re h (by rw [hr]; exact hd.h)
theorem rD' (h : resL E tm st res = some vs) (hr : DS (pack vs) r) : W (cD P E N res r mu) (.code .ret :: k) tm st := rt h hr
theorem rS {K : AV → Store → Prop} [hd : DtV v] (h : resL E tm st res = some vs) (hk : K v st) (hr : pack vs = v) : W (cK P E N res (isK K) mu) (.code .ret :: k) tm st := rt h (isk (by rw [hr]; exact hd.h) hk)
theorem eS {K : AV → Store → Prop} [hd : DtV v] (h : resL E tm st res = some vs) (hk : K v st) (hr : pack vs = v) : W (cK P E N res (isK K) mu) [] tm st := re h (isk (by rw [hr]; exact hd.h) hk)
theorem rS' {K : AV → Store → Prop} (h : resL E tm st res = some vs) (hk : K v st) (hr : DS (pack vs) v) : W (cK P E N res (isK K) mu) (.code .ret :: k) tm st := rt h (isk hr hk)
theorem rl0 : resL E tm st [] = some [] := rfl
theorem rlt {t : Nat} {vs : List AV} {rs : List RA} (hl : resL E tm st rs = some vs) : resL E tm st (.tmp t :: rs) = some (tm t :: vs) := rl_tmp rfl hl
end
end Go.Proofs.YtcidnoghoifmmaaDoor.AW
end
section
/-
  Short words for printed code and printed walks; arrays that are spelled out.
-/

set_option linter.unusedVariables false
namespace Go.Proofs.YtcidnoghoifmmaaDoor.AW
open Go
instance (n : Nat) : OfNat AX n := ⟨.t n⟩
abbrev q (d : Nat) (i : AI) : AOp := ⟨.some d, .none, .plain i⟩
abbrev q0 (i : AI) : AOp := ⟨.none, .none, .plain i⟩
abbrev qc (d : Nat) (f : Nat) (l : List AX) : AOp := ⟨.some d, .none, .call f l⟩
abbrev qf (d : Nat) (f : AX) (l : List AX) : AOp := ⟨.some d, .none, .callv f l⟩
abbrev AOp.y (o : AOp) (g : Nat) : AOp := ⟨o.dst, .some (g, true), o.ins⟩
abbrev AOp.n (o : AOp) (g : Nat) : AOp := ⟨o.dst, .some (g, false), o.ins⟩
abbrev ki (n : Int) : AX := .c (.int .i64 n)
abbrev ku (n : Int) : AX := .c (.int .u8 n)
abbrev ACode.s (a b : ACode) : ACode := .seq a b
theorem ci {X : Cx} {k : List KJ} {tm : Fr} {st : Store} {z : AX} {x y : ACode} {t : Bool} {α : Type} {A B : Option α} {r : α} (hF : (if t = true then A else B) = some r) (hz : tm.x z = .bool t) (h1 : t = true → A = some r → W X (.code x :: k) tm st) (h2 : t = false → B = some r → W X (.code y :: k) tm st) : W X (.code (.cond z x y) :: k) tm st :=
  cd hz (fun c => h1 c (ite_t c hF)) (fun c => h2 c (ite_f c hF))
theorem bi {b : Bool} {p : Prop} {α : Type} {A B : Option α} {r : α} (hF : (if b = true then A else B) = some r) (h1 : b = true → A = some r → p) (h2 : b = false → B = some r → p) : p :=
  bsplit (fun c => h1 c (ite_t c hF)) (fun c => h2 c (ite_f c hF))

theorem let_some {α β : Type} {x : α} {f : α → Option β} {r : β} (h : (some x >>= f) = some r) : ∃ v, x = v ∧ f v = some r := ⟨x, rfl, h⟩
theorem updL_fix {tm : Fr} {fr : List (Nat × AV)} (g : Nat) {v w : AV} (hg : updL tm fr g = v) (hw : v = w) : updL tm ((g, w) :: fr) = updL tm fr := by
  subst hw
  funext i
  show upd (updL tm fr) g v i = updL tm fr i
  unfold upd
  cases e : Nat.beq g i with
  | false => rfl
  | true => rw [← Nat.eq_of_beq_eq_true e]; exact hg.symm
theorem wfx {X : Cx} {k : List KJ} {tm : Fr} {fr : List (Nat × AV)} {st : Store} (g : Nat) {b t : Bool} (hg : updL tm fr g = .bool b) (hb : b = t) (hk : W X k (updL tm ((g, .bool t) :: fr)) st) : W X k (updL tm fr) st := by
  rw [updL_fix g hg (by rw [hb])] at hk; exact hk
theorem dfx {X : Cx} {k : List KJ} {tm : Fr} {fr : List (Nat × AV)} {st st0 : Store} {mr r : Nat} {l suf : List AOp} (g : Nat) {b t : Bool} (hg : updL tm fr g = .bool b) (hb : b = t) (hk : WD X st0 mr l r suf k (updL tm ((g, .bool t) :: fr)) st) : WD X st0 mr l r suf k (updL tm fr) st := by
  rw [updL_fix g hg (by rw [hb])] at hk; exact hk

def cF {α : Type} (c : α → List AV) (z : α) (l : List α) : Nat → Nat → List AV
  | 0, _ => []
  | n + 1, i => c (l.getD i z) ++ cF c z l n (i + 1)
theorem cF_flat {α : Type} (c : α → List AV) (z : α) (l : List α) : ∀ n i : Nat, l.length = i + n → cF c z l n i = (l.drop i).flatMap c
  | 0, i, h => by simp [cF, List.drop_of_length_le (show l.length ≤ i by omega)]
  | n + 1, i, h => by
    have hi : i < l.length := by omega
    rw [cF, cF_flat c z l n (i + 1) (by omega), List.drop_eq_getElem_cons hi, List.flatMap_cons]
    simp [List.getD, hi]
theorem cF_A {n : Nat} {α : Type} (c : α → List AV) (z : α) (a : Arr n α) : cF c z a.l n 0 = cA c a := by rw [cF_flat c z a.l n 0 (by rw [a.h]; omega)]; rfl
instance {α : Type} (c : α → List AV) (z : α) (l : List α) (n i : Nat) [h : ∀ x, DtL (c x)] : DtL (cF c z l n i) := by
  induction n generalizing i with
  | zero => exact ⟨dsl_nil⟩
  | succ n ih => exact ⟨dsl_app (h _).h (ih _).h⟩
theorem lrF_get {n : Nat} {α : Type} {c : α → List AV} {z : α} {es : Nat} (hc : ∀ x, (c x).length = es) {a : Arr n α} {i : Int} {x : α} (h : ix a.l i = some x) : LR (cF c z a.l n 0) (i.toNat * es) (c x) (c x) (cF c z a.l n 0) := by
  rw [cF_A]; exact lr_get hc h
theorem lrF_set {n : Nat} {α : Type} {c : α → List AV} {z : α} {es : Nat} (hc : ∀ x, (c x).length = es) {a : Arr n α} {i : Int} {x : α} (h : ix a.l i = some x) (y : α) : LR (cF c z a.l n 0) (i.toNat * es) (c x) (c y) (cF c z (aset a i y).l n 0) := by
  rw [cF_A, cF_A]; exact lr_set hc h y
theorem eqC_F {n : Nat} {α : Type} [DecidableEq α] {ks ks' : List LK} {c : α → List AV} {z : α} (hc : EqC ks c) (e : ks' = repK ks n) : EqC ks' (fun a : Arr n α => cF c z a.l n 0) := fun x y => by
  simp only [cF_A]; exact eqC_A hc e x y
def cSl {α : Type} (es : Nat) (f : α → AV) (o : Sl α) : List AV := [slV es f o]
theorem slV_cells {α : Type} {es : Nat} {f : α → AV} {o : Sl α} : (slV es f o).cells = cSl es f o := by cases o <;> rfl
theorem cSl_len {α : Type} {es : Nat} {f : α → AV} (o : Sl α) : (cSl es f o).length = 1 := rfl
theorem cSl_one {α : Type} {es : Nat} {f : α → AV} (o : Sl α) : (cSl es f o).all AV.one = true := by cases o <;> rfl
instance {α : Type} (es : Nat) (f : α → AV) (o : Sl α) [h : DtF f] : DtL (cSl es f o) := ⟨dsl_cons (ds_sl h.h) dsl_nil⟩
def okI (k : IntKind) (n : Int) : Prop := (Lit.int k n).wf = true
def bk1 {α : Type} (_ : α) : Nat := 1
def bkSl {α : Type} (bk : α → Nat) (o : Sl α) : Nat := ((ls o).map bk).sum + 1
end Go.Proofs.YtcidnoghoifmmaaDoor.AW
end
section
/-
  From a law's plain function to its row, where the row lists variables and bounds the bulk of what it reads.
-/






set_option linter.unusedVariables false
namespace Go.Proofs.YtcidnoghoifmmaaDoor.AW
open Go Go.RowKit Go.WideShapes Go.ChangeShapes Go.Deep

theorem storeE {E : Glob} {W : World} (hE : GlobOk E (G0 W)) : StoreRel E (G0 W) [] W :=
  let h := store0 W
  ⟨h.len, h.obj, h.apart, h.mem, h.one, h.shp, hE⟩
theorem law_callsG {P : Program} {E : Glob} {f : FuncId} {ds : List AV} {vs : List Value} {W : World} (hE : GlobOk E (G0 W)) (h : DFun P E f ds (.bool true)) (hr : RepL (G0 W) ds vs) :
    Calls P f vs.toArray W fun e W' => e = .returned (.bool true) ∧ Below W.heap.size W W' := by
  refine (h (G0 W) W vs hr (storeE hE)).mono fun e W' ⟨u, r, st', G', he, hr', hs', hext, hd, hk⟩ => ?_
  have hrr := strip_rep (G := G') (G' := G') (fun _ _ _ h => h) hd hr'
  have e1 : r.strip = .bool true := hk
  rw [e1] at hrr
  simp only [Rep] at hrr
  subst hrr
  exact ⟨he, hext.os, hext.tape, hext.output, hext.size, fun k hk => hext.block k hk fun s hs => by simp [G0] at hs⟩

theorem laid_at {P : Program} {W : World} : ∀ {laid : List (String × DataW Unit)} {ps : List MemPlace}, DataW.LaidVars P W laid ps → ∀ (i : Nat) {name : String} {d : DataW Unit}, laid[i]? = some (name, d) →
    ∃ g t cs fuel p, P.globalNamed name = some g ∧ (P.globals[g]?).map (·.type) = some t ∧ W.var? P name = some cs ∧ DataW.trod (fun _ => ()) P W 0 (fun _ => true) false fuel t cs.toList = some (d, p)
  | [], _, _, i, _, _, hi => by simp at hi
  | (n, d0) :: r, ps, h, 0, name, d, hi => by
    simp at hi
    obtain ⟨rfl, rfl⟩ := hi
    obtain ⟨g, t, cs, fuel, p, q, h1, h2, h3, h4, _, _⟩ := h
    exact ⟨g, t, cs, fuel, p, h1, h2, h3, h4⟩
  | (n, d0) :: r, ps, h, i + 1, name, d, hi => by
    obtain ⟨g, t, cs, fuel, p, q, _, _, _, _, h5, _⟩ := h
    exact laid_at h5 i (by simpa using hi)
theorem glob_at {P : Program} {W : World} {laid : List (String × DataW Unit)} (h : laidMet P laid W) (i : Nat) {name : String} {d : DataW Unit} (hi : laid[i]? = some (name, d)) {g : Nat} {t : TypeId} (hg : P.globalNamed name = some g) (ht : (P.globals[g]?).map (·.type) = some t) {cells : List AV}
    (hcs : ∀ (cs : List Value) (fuel : Nat) (p : List MemPlace), DataW.trod (fun _ => ()) P W 0 (fun _ => true) false fuel t cs = some (d, p) → RepL { slots := [], M := M0 W } cells cs ∧ ∀ u ∈ cs, u.oneCell' = true) :
    ∃ us, RepL { slots := [], M := (G0 W).M } cells us ∧ (∀ j v, us[j]? = some v → (G0 W).M g j = some v) ∧ ∃ e, (G0 W).sh g = some (e, us.length) := by
  obtain ⟨ps, hl, _, _⟩ := h
  obtain ⟨g', t', cs, fuel, p, h1, h2, h3, h4⟩ := laid_at hl i hi
  obtain rfl := Option.some.inj (hg.symm.trans h1)
  obtain rfl := Option.some.inj (ht.symm.trans h2)
  obtain ⟨k1, k2⟩ := hcs cs.toList fuel p h4
  have h5 := h3
  unfold World.var? at h5
  rw [hg] at h5
  simp only [Option.bind_some] at h5
  split at h5
  · rename_i arr e fz hb
    cases h5
    refine ⟨cs.toList, k1, fun j v hv => ?_, e, ?_⟩
    · have hc : W.cell? ⟨g, j, none⟩ = some v := by simp only [World.cell?, hb, Option.isSome_none, Bool.false_eq_true, if_false]; simpa using hv
      exact M0_some hc (k2 v (List.mem_of_getElem? hv))
    · simp only [G0, shW, hb, Array.length_toList]
  · cases h5
theorem cells_ints {P : Program} {W : World} {t e : TypeId} {n : Nat} {k : IntKind} {zs : List Int} (ht : P.underlying t = some (.array n e)) (he : P.underlying e = some (.int k)) (hce : P.cellsOf e = 1) (hct : P.cellsOf t = n) :
    ∀ (cs : List Value) (fuel : Nat) (p : List MemPlace), DataW.trod (fun _ => ()) P W 0 (fun _ => true) false fuel t cs = some ((.agg (zs.map fun z => .lit (.int k z)) : DataW Unit), p) → RepL { slots := [], M := M0 W } (zs.flatMap (cI k)) cs ∧ ∀ u ∈ cs, u.oneCell' = true := by
  intro cs fuel p h
  have hcs := Lib.cells_of_tab (zs := zs) ht he hce hct h
  subst hcs
  constructor
  · clear h
    induction zs with
    | nil => exact repl_nil
    | cons z zs ih => exact repl_cons (rep_int0 k z) ih
  · intro u hu
    obtain ⟨z, _, rfl⟩ := List.mem_map.1 hu
    rfl
structure RdOk {H : Type} {α : Type} (enc : TypeId × Value → H) (P : Program) (W : World) (base : Nat) (t : TypeId) (c : α → List AV) (ok : α → Prop) (bk : α → Nat) : Prop where
  rd : ∀ {fuel : Nat} {cs : List Value} {x : DataW H × List MemPlace}, DataW.trod enc P W base (fun _ => true) true fuel t cs = some x →
    ∃ a, RepL (G0 W) (c a) cs ∧ (∀ u ∈ cs, u.oneCell' = true) ∧ ok a ∧ bk a ≤ Rows.uptoBulk x.1
section
variable {H : Type} {enc : TypeId × Value → H} {P : Program} {W : World} {base : Nat} {t : TypeId}
theorem rdI {k : IntKind} (ht : P.underlying t = some (.int k)) : RdOk enc P W base t (cI k) (okI k) bk1 := ⟨fun h => by
  obtain ⟨n, rfl, rfl, hw⟩ := DataW.trod_int ht h
  exact ⟨n, repl_cons (rep_int0 k n) repl_nil, by simp [Value.oneCell'], hw, by simp [bk1, Rows.uptoBulk]⟩⟩
theorem ex_list {α : Type} {Q : Nat → α → Prop} : ∀ n : Nat, (∀ i, i < n → ∃ x, Q i x) → ∃ l : List α, l.length = n ∧ ∀ (i : Nat) x, l[i]? = some x → Q i x
  | 0, _ => ⟨[], rfl, fun i x h => by simp at h⟩
  | n + 1, h => by
    obtain ⟨l, hl, hq⟩ := ex_list n fun i hi => h i (by omega)
    obtain ⟨x, hx⟩ := h n (by omega)
    refine ⟨l ++ [x], by simp [hl], fun i y hy => ?_⟩
    rw [List.getElem?_append] at hy
    split at hy
    · exact hq i y hy
    · have : i = n := by
        have := lt_of_getElem? hy
        simp at this; omega
      subst this
      simp [hl] at hy
      subst hy; exact hx
theorem reps_list {α : Type} {es b : Nat} {f : α → AV} : ∀ (l : List α) (o : Nat), (∀ (i : Nat) x, l[i]? = some x → ∃ u : Value, Rep (G0 W) (f x) u ∧ u.cells.size = es ∧ ∀ j y, u.cells[j]? = some y → M0 W b (o + i * es + j) = some y) → RepS (G0 W) es b o (l.map f)
  | [], _, _ => by simp only [List.map_nil, RepS]
  | x :: l, o, h => by
    simp only [List.map_cons, RepS]
    obtain ⟨u, h1, h2, h3⟩ := h 0 x rfl
    refine ⟨⟨u, h1, h2, fun j y hy => by
      have := h3 j y hy
      show M0 W b (o + j) = some y
      simpa using this⟩, reps_list l (o + es) fun i y hy => ?_⟩
    obtain ⟨u, k1, k2, k3⟩ := h (i + 1) y (by simpa using hy)
    refine ⟨u, k1, k2, fun j z hz => ?_⟩
    have := k3 j z hz
    rw [Nat.add_mul, Nat.one_mul] at this
    rwa [show o + es + i * es + j = o + (i * es + es) + j by omega]
theorem sum_le {α : Type} {bk : α → Nat} {D : Nat → DataW H} : ∀ (l : List α) (k : Nat), (∀ (i : Nat) x, l[i]? = some x → bk x ≤ Rows.uptoBulk (D (k + i))) → (l.map bk).sum ≤ Rows.uptoBulkAll ((List.range l.length).map fun i => D (k + i))
  | [], k, _ => by simp
  | x :: l, k, h => by
    have h0 := h 0 x rfl
    have ih := sum_le l (k + 1) fun i y hy => by
      have := h (i + 1) y (by simpa using hy)
      rwa [show k + 1 + i = k + (i + 1) by omega]
    have e : (List.range (x :: l).length).map (fun i => D (k + i)) = D (k + 0) :: (List.range l.length).map fun i => D (k + 1 + i) := by
      rw [List.length_cons, List.range_succ_eq_map, List.map_cons, List.map_map]
      congr 1
      apply List.map_congr_left
      intro i _
      simp only [Function.comp]
      rw [show k + (i + 1) = k + 1 + i by omega]
    rw [e]
    simp only [List.map_cons, List.sum_cons, Rows.uptoBulkAll]
    omega
theorem agg_rep {α : Type} {c : α → List AV} {es : Nat} : ∀ (a : α) (us : List Value), RepL (G0 W) (c a) us → us.length = es → ∃ u : Value, Rep (G0 W) (.agg (c a)) u ∧ u.cells.toList = us := fun a us h _ =>
  ⟨.agg us.toArray, by simp only [Rep]; exact ⟨us, h, rfl⟩, by simp [Value.cells]⟩
end
end Go.Proofs.YtcidnoghoifmmaaDoor.AW
end
section
/-
  Rows that are written to: a call's own slice taken as one, its elements looked at and stored to, and appended to.
-/

set_option linter.unusedVariables false
namespace Go.Proofs.YtcidnoghoifmmaaDoor.AW
open Go

structure Rw (α : Type) where
  l : List α
  n : Nat
theorem chunks_flat {α : Type} {c : α → List AV} {f : α → AV} {es : Nat} {ag : Bool} (hc : ∀ x, (c x).length = es) (hf : ∀ x, ofCells ag (c x) = f x) : ∀ l : List α, (chunks es l.length (l.flatMap c)).map (ofCells ag) = l.map f
  | [] => rfl
  | x :: l => by
    simp only [List.length_cons, List.flatMap_cons, chunks, List.map_cons]
    rw [List.take_left' (hc x), List.drop_left' (hc x), hf, chunks_flat hc hf l]
section
variable {E : Glob} {tm : Fr} {st : Store} {x i : AX}
theorem e_iaddrR {id n es : Nat} {cs : List AV} {k : IntKind} {j : Int} (hp : tm.x x = .row id es 0 n) (ho : st[id]? = some (.cells cs)) (hi : tm.x i = .int k j) (h : 0 ≤ j ∧ j < (n : Int)) : evalAI E tm st (.iaddrL es x i) = some (.ptr id (j.toNat * es), st) := by
  simp only [ev_iaddrL, hi, asI_is, hp, elemP_row, alive_of ho]
  rw [if_pos ⟨trivial, trivial, h.1, h.2⟩, Nat.zero_add]
theorem e_lenR {id n es : Nat} {cs : List AV} (hp : tm.x x = .row id es 0 n) (ho : st[id]? = some (.cells cs)) : evalAI E tm st (.len x) = some (.int .i64 n, st) := by
  simp only [ev_len, hp, lenV_row, alive_of ho, if_true]
end
section
variable {X : Cx} {k : List KJ} {tm : Fr} {fr : List (Nat × AV)} {st : Store} {l : List AOp} {d : Nat} {L L1 : List Asn} {x y : AX}
end
def plc (es : Nat) : Nat → List (List AV) → List (Nat × List AV)
  | _, [] => []
  | o, c :: l => (o, c) :: plc es (o + es) l
theorem fill_plc {es : Nat} {zero : List AV} (hz : zero.length = es) : ∀ (l : List (List AV)) (pre : List AV), (∀ c ∈ l, c.length = es) → fillA (pre ++ rep0 zero l.length) (plc es pre.length l) = pre ++ l.flatten
  | [], pre, _ => by simp [plc, fillA, rep0]
  | c :: l, pre, h => by
    have hc := h c (by simp)
    have ih := fill_plc hz l (pre ++ c) fun d hd => h d (by simp [hd])
    simp only [plc, fillA, List.length_cons, rep0]
    rw [List.take_left, hc]
    have e : (pre ++ (zero ++ rep0 zero l.length)).drop (pre.length + es) = rep0 zero l.length := by
      rw [← List.append_assoc]
      exact List.drop_left' (by simp [hz])
    rw [e]
    rw [List.length_append, hc] at ih
    rw [ih]
    simp
end Go.Proofs.YtcidnoghoifmmaaDoor.AW
end
section
/-
  Rows that are made, written to and appended to; rows of rows.
-/

set_option linter.unusedVariables false
namespace Go.Proofs.YtcidnoghoifmmaaDoor.AW
open Go

def rvV {α : Type} (es : Nat) (o : Sl α) (id : Nat) : AV := match o with
  | none => .nils
  | some l => .row id es 0 l.length
def rvC {α : Type} (c : α → List AV) (o : Sl α) : List AV := (ls o).flatMap c
def rvA {α : Type} (c : α → List AV) (id : Nat) (o : Sl α) : Asn := match o with
  | none => emp
  | some l => pt id (.cells (l.flatMap c))
def vset {α : Type} (o : Sl α) (i : Int) (x : α) : Sl α := o.map (fun l => l.set i.toNat x)

theorem rv_some {α : Type} {o : Sl α} {i : Int} {x : α} (h : ix (ls o) i = some x) : ∃ l, o = some l := by
  cases o with
  | none => have := ix_some h; simp [ls] at this
  | some l => exact ⟨l, rfl⟩
theorem SH.rvNil {st : Store} {L : List Asn} (hs : SH st L) {α : Type} (c : α → List AV) : SH st (rvA c 0 (none : Sl α) :: L) := hs.empt fun _ => rfl
theorem lrV_get {α : Type} {c : α → List AV} {es : Nat} (hc : ∀ x, (c x).length = es) {o : Sl α} {i : Int} {x : α} (h : ix (ls o) i = some x) : LR (rvC c o) (i.toNat * es) (c x) (c x) (rvC c o) := by
  have := lr_list hc (ls o) i.toNat x x (ix_some h).2.1
  rw [set_get_self _ _ _ (ix_some h).2.1] at this
  exact this
theorem ls_vset {α : Type} (o : Sl α) (i : Int) (x : α) : ls (vset o i x) = (ls o).set i.toNat x := by cases o <;> rfl
theorem lrV_set {α : Type} {c : α → List AV} {es : Nat} (hc : ∀ x, (c x).length = es) {o : Sl α} {i : Int} {x : α} (h : ix (ls o) i = some x) (y : α) : LR (rvC c o) (i.toNat * es) (c x) (c y) (rvC c (vset o i y)) := by
  have := lr_list hc (ls o) i.toNat x y (ix_some h).2.1
  rw [← ls_vset] at this
  exact this
theorem rvV_vset {α : Type} (es : Nat) (o : Sl α) (i : Int) (x : α) (id : Nat) : rvV es (vset o i x) id = rvV es o id := by cases o <;> simp [rvV, vset]
theorem rep0_flat {α : Type} (c : α → List AV) (z : α) : ∀ n, rep0 (c z) n = (List.replicate n z).flatMap c
  | 0 => rfl
  | n + 1 => by simp [rep0, List.replicate_succ, rep0_flat c z n]

theorem SH.repl {st : Store} {P : Asn} {L : List Asn} (hs : SH st (P :: L)) (j : Nat) (hj : j < L.length) : SH st (L.set j P) := by
  obtain ⟨a, b, h1, h2, h3, h4⟩ := hs
  obtain ⟨p, q, k1, k2, k3, k4⟩ := starL_at (List.getElem?_eq_getElem hj) h2
  have hap : PH.dj a p ∧ PH.dj a q := PH.dj_or.1 (fun i => by rw [← k4 i]; exact h3 i)
  have h5 := starL_put hj h1 k2 hap.2
  have h6 : PH.dj (PH.or a q) p := (PH.dj_or.2 ⟨hap.1.symm, k3⟩).symm
  refine starL_congr (fun i => ?_) (starL_mono h6 h5)
  have h7 : st[i]? = PH.or a b i := h4 i
  show _ = st[i]?
  rw [h7, PH.or_assoc]
  have h8 := PH.or_comm k3 i
  simp only [PH.or, k4 i] at h8 ⊢
  rw [h8]

section
variable {E : Glob} {tm : Fr} {st : Store} {x i : AX} {L : List Asn}
theorem SH.gv {α : Type} {c : α → List AV} {o : Sl α} {id : Nat} {n : Int} {y : α} (hs : SH st L) (j : Nat) (hj : L[j]? = some (rvA c id o)) (h : ix (ls o) n = some y) : st[id]? = some (.cells (rvC c o)) := by
  obtain ⟨l, rfl⟩ := rv_some h
  exact hs.g j hj
theorem e_lenV {α : Type} {es : Nat} {c : α → List AV} {o : Sl α} {id : Nat} (hs : SH st L) (j : Nat) (hj : L[j]? = some (rvA c id o)) (hx : tm.x x = rvV es o id) : evalAI E tm st (.len x) = some (.int .i64 (ls o).length, st) := by
  cases o with
  | none => simp only [ev_len, hx, rvV]; rfl
  | some l => exact e_lenR hx (hs.g j hj)
theorem e_iaddrV {α : Type} {es : Nat} {c : α → List AV} {o : Sl α} {id : Nat} {k : IntKind} {n : Int} {y : α} (hs : SH st L) (j : Nat) (hj : L[j]? = some (rvA c id o)) (hx : tm.x x = rvV es o id) (hi : tm.x i = .int k n) (h : ix (ls o) n = some y) : evalAI E tm st (.iaddrL es x i) = some (.ptr id (n.toNat * es), st) := by
  obtain ⟨l, rfl⟩ := rv_some h
  have h2 := ix_some h
  exact e_iaddrR hx (hs.g j hj) hi ⟨h2.1, by simpa [ls] using h2.2.2⟩
end

section
variable {X : Cx} {k : List KJ} {tm : Fr} {fr : List (Nat × AV)} {st : Store} {l : List AOp} {d : Nat} {L L' L1 : List Asn} {x y a : AX}
theorem mkV {α : Type} {es bytes : Nat} {c : α → List AV} (z : α) {z0 : List AV} {xl xc : AX} {kd kd' : IntKind} {n m : Int} (hs : SH st L) (hz : z0 = c z) (hl : (updL tm fr).x xl = .int kd n) (hc : (updL tm fr).x xc = .int kd' m) (hb : 0 ≤ n ∧ m = n ∧ (bytes : Int) * n ≤ 281474976710656)
    (hk : ∀ st id, SH st (rvA c id (some (List.replicate n.toNat z)) :: L) → W X (.ops l :: k) (updL tm ((d, (rvV es (some (List.replicate n.toNat z)) id)) :: fr)) st) : W X (.ops (⟨.some d, .none, .plain (.mkslice es bytes z0 xl xc true)⟩ :: l) :: k) (updL tm fr) st := by
  subst hz
  have h3 := hs.push (.cells ((List.replicate n.toNat z).flatMap c))
  refine W.po (v := rvV es (some (List.replicate n.toNat z)) st.length) (st' := st ++ [.cells ((List.replicate n.toNat z).flatMap c)]) ?_ (hk _ _ h3)
  simp only [evalAI, hl, hc, if_true]
  rw [if_pos hb, rep0_flat]
  simp [rvV]
theorem apV {α : Type} {es bytes : Nat} {f : α → AV} {c : α → List AV} {o : Sl α} {id : Nat} {ys : List α} (hs : SH st L) (j : Nat) (hj : L[j]? = some (rvA c id o)) (hx : (updL tm fr).x x = rvV es o id) (hy : appElems es st ((updL tm fr).x y) = some (ys.map f))
    (hb : ((ls o).length + ys.length) * bytes ≤ 140737488355328) (hc : ∀ x, (c x).length = es) (hf : ∀ x, (f x).cells = c x)
    {L' : Nat → List Asn} (hL : ∀ id, setL L j (rvA c id (sapp o ys)) = some (L' id))
    (hk : ∀ st id, SH st (L' id) → W X (.ops l :: k) (updL tm ((d, (rvV es (sapp o ys) id)) :: fr)) st) : W X (.ops (⟨.some d, .none, .plain (.appR es bytes x y)⟩ :: l) :: k) (updL tm fr) st := by
  have hcells : (ys.map f).flatMap AV.cells = ys.flatMap c := by
    rw [List.flatMap_map]; congr 1; funext z; exact hf z
  cases o with
  | none =>
    simp only [ls, Option.getD_none, List.length_nil, Nat.zero_add] at hb
    cases ys with
    | nil =>
      refine W.po (v := .nils) (st' := st) ?_ (hk st id ?_)
      · simp only [evalAI, hy, hx, rvV, List.map_nil]
      · have : L.set j (rvA c id (sapp (none : Sl α) [])) = L := set_get_self _ _ _ hj
        rw [setL_eq (hL id), this]; exact hs
    | cons z zs =>
      have e1 : rvA c st.length (sapp (none : Sl α) (z :: zs)) = pt st.length (.cells ((z :: zs).flatMap c)) := by simp [sapp, ls, rvA]
      refine W.po (v := rvV es (sapp none (z :: zs)) st.length) (st' := st ++ [.cells ((z :: zs).flatMap c)]) ?_ (hk _ st.length ?_)
      · simp only [evalAI, hy, hx, rvV, List.map_cons]
        rw [if_pos (by simpa using hb), ← List.map_cons, hcells]
        simp [sapp, ls]
      · rw [setL_eq (hL _), e1]
        refine hs.upd hj fun a b ha hd he => ⟨fun i => if i = st.length then some (.cells ((z :: zs).flatMap c)) else none, fun _ => rfl, fun i => ?_, fun i => ?_⟩
        · by_cases e : i = st.length
          · right
            have := he i
            rw [List.getElem?_eq_none (by omega)] at this
            exact (PH.or_none.1 this.symm).2
          · exact .inl (if_neg e)
        · by_cases e : i = st.length
          · rw [PH.or_l (a := fun i => if i = st.length then some (.cells ((z :: zs).flatMap c)) else none) (x := .cells ((z :: zs).flatMap c)) (if_pos e)]; subst e; simp
          · rw [PH.or_r (a := fun i => if i = st.length then some (.cells ((z :: zs).flatMap c)) else none) (if_neg e)]
            have h1 := he i
            rw [PH.or_r (ha i)] at h1
            rw [← h1]
            rcases Nat.lt_or_ge i st.length with h | h
            · rw [List.getElem?_append_left h]
            · rw [List.getElem?_eq_none (by simp; omega), List.getElem?_eq_none h]
  | some m =>
    have hg : st[id]? = some (.cells (m.flatMap c)) := hs.g j hj
    have hid := (List.getElem?_eq_some_iff.1 hg).1
    have hml : (m.flatMap c).length = m.length * es := by
      clear hg hs hk hb hj hL hx
      induction m with
      | nil => simp
      | cons z m ih => simp [hc, ih, Nat.add_mul, Nat.add_comm]
    refine W.po (v := rvV es (sapp (some m) ys) st.length) (st' := st.set id .dead ++ [.cells (m.flatMap c ++ ys.flatMap c)]) ?_ (hk _ st.length ?_)
    · simp only [evalAI, hy, hx, rvV, hg]
      rw [if_pos ⟨trivial, trivial, hml, by simpa [ls] using hb⟩, hcells]
      simp [sapp, ls]
    · rw [setL_eq (hL _)]
      have e1 : rvA c st.length (sapp (some m) ys) = pt st.length (.cells (m.flatMap c ++ ys.flatMap c)) := by simp [sapp, ls, rvA]
      rw [e1]
      have h2 := (SH.set (o' := .dead) hs hj).push (.cells (m.flatMap c ++ ys.flatMap c))
      rw [List.length_set] at h2
      have hjl : j < L.length := (List.getElem?_eq_some_iff.1 hj).1
      have h3 := h2.repl j (by simpa using hjl)
      rwa [List.set_set] at h3
theorem slv {α : Type} {c : α → List AV} {o o' : Sl α} {u : Int} {v v' : α} {id off n : Nat} {s s' : List AV} (hs : SH st L) (j : Nat) (hp : (updL tm fr).x a = .ptr id off) (hj : L[j]? = some (rvA c id o)) (hix : ix (ls o) u = some v) (ho' : o' = vset o u v') (hl : LR (rvC c o) off s s' (rvC c o')) (hn : s.length = n) (hx : ((updL tm fr).x x).cells = s') (hn' : s'.length = n) (h1 : s'.all AV.one = true)
    (hL : setL L j (rvA c id o') = some L') (hk : ∀ st, SH st L' → W X (.ops l :: k) (updL tm fr) st) : W X (.ops (⟨.none, .none, .plain (.store n a x)⟩ :: l) :: k) (updL tm fr) st := by
  obtain ⟨m, rfl⟩ := rv_some hix
  subst ho'
  exact W.o0 (e_store hp (hs.g j hj) hl hn hx hn' h1) (hk _ (setL_eq hL ▸ hs.set hj _))
end

section
variable {E : Glob} {tm : Fr} {st : Store} {x i : AX} {L : List Asn}
end
section
variable {X : Cx} {k : List KJ} {tm : Fr} {fr : List (Nat × AV)} {st : Store} {l : List AOp} {d : Nat} {L L' L1 : List Asn} {x y a : AX}
end
end Go.Proofs.YtcidnoghoifmmaaDoor.AW
end
section
/-
  Function values: a range over a function, its rounds, the calls of yield; boxes that are never written to again.
-/


set_option linter.unusedVariables false
set_option linter.unusedSimpArgs false
namespace Go.Proofs.YtcidnoghoifmmaaDoor.AW
open Go

def bun (l : List Asn) : Asn := starL l
theorem SH.unbun {st : Store} {l L : List Asn} (h : SH st (bun l :: L)) : SH st (l ++ L) := starL_app.2 h
theorem SH.bun {st : Store} {l L : List Asn} (h : SH st (l ++ L)) : SH st (bun l :: L) := starL_app.1 h
theorem SH.tail {st : Store} {P : Asn} {L : List Asn} (h : SH st (P :: L)) : SH st L := by
  obtain ⟨a, b, h1, h2, h3, h4⟩ := h
  refine starL_congr (fun i => ?_) (starL_mono h3.symm h2)
  exact ((h4 i).trans (PH.or_comm h3 i)).symm
theorem SH.kill {st : Store} {id : Nat} {o : AObj} {L : List Asn} (h : SH st (pt id o :: L)) : SH (st.set id .dead) L := (SH.set h (j := 0) rfl .dead).tail
theorem SH.set0 {st : Store} {id : Nat} {o : AObj} {L : List Asn} (h : SH st (pt id o :: L)) (o' : AObj) : SH (st.set id o') (pt id o' :: L) := SH.set h (j := 0) rfl o'
theorem SH.at0 {st : Store} {id : Nat} {o : AObj} {L : List Asn} (h : SH st (pt id o :: L)) : st[id]? = some o := SH.g h 0 rfl

def bx1 (A : Nat → List Asn) : Asn := fun h => ∃ j, starL (A j) h
def bx2 (A : Nat → Nat → List Asn) : Asn := fun h => ∃ j k, starL (A j k) h
theorem SH.bx1o {st : Store} {A : Nat → List Asn} {L : List Asn} (h : SH st (bx1 A :: L)) : ∃ j, SH st (A j ++ L) := by
  obtain ⟨a, b, ⟨j, h1⟩, h2, h3, h4⟩ := h
  exact ⟨j, starL_app.2 ⟨a, b, h1, h2, h3, h4⟩⟩
theorem SH.bx2o {st : Store} {A : Nat → Nat → List Asn} {L : List Asn} (h : SH st (bx2 A :: L)) : ∃ j k, SH st (A j k ++ L) := by
  obtain ⟨a, b, ⟨j, k, h1⟩, h2, h3, h4⟩ := h
  exact ⟨j, k, starL_app.2 ⟨a, b, h1, h2, h3, h4⟩⟩
theorem SH.bx1c {st : Store} {A : Nat → List Asn} {L : List Asn} (j : Nat) (h : SH st (A j ++ L)) : SH st (bx1 A :: L) := by
  obtain ⟨a, b, h1, h2, h3, h4⟩ := starL_app.1 h
  exact ⟨a, b, ⟨j, h1⟩, h2, h3, h4⟩
theorem SH.bx2c {st : Store} {A : Nat → Nat → List Asn} {L : List Asn} (j k : Nat) (h : SH st (A j k ++ L)) : SH st (bx2 A :: L) := by
  obtain ⟨a, b, h1, h2, h3, h4⟩ := starL_app.1 h
  exact ⟨a, b, ⟨j, k, h1⟩, h2, h3, h4⟩
theorem SH.cong {st : Store} {id : Nat} {cs : List AV} {L L' : List Asn} (hs : SH st L) (j : Nat) (hj : L[j]? = some (pt id (.cells cs))) {cs' : List AV} (h : cs = cs') (hL : setL L j (pt id (.cells cs')) = some L') : SH st L' := by
  subst h
  have e := setL_eq hL
  have e2 : L.set j (pt id (.cells cs)) = L := by
    refine List.ext_getElem? fun i => ?_
    by_cases e3 : j = i
    · subst e3; rw [List.getElem?_set_self (List.getElem?_eq_some_iff.1 hj).1, hj]
    · rw [List.getElem?_set_ne e3]
  rw [e, e2]; exact hs

def putL (tm : Fr) : List Nat → List AV → Fr
  | [], _ => tm
  | _ :: _, [] => tm
  | p :: ps, v :: vs => putL (upd tm p v) ps vs

theorem putL_rel {G : Gh} {N : Nat} : ∀ {ps : List Nat} {ds : List AV} {vs : List Value} {tm : Fr} {T : Array Value}, (∀ p ∈ ps, p < N) → RepL G ds vs → T.size = N → (∀ t, Rep G (tm t) (T.getD t undef)) →
    ((ps.zip vs).foldl (fun tmps (t, a) => tmps.setIfInBounds t a) T).size = N ∧ ∀ t, Rep G (putL tm ps ds t) (((ps.zip vs).foldl (fun tmps (t, a) => tmps.setIfInBounds t a) T).getD t undef)
  | [], ds, vs, tm, T, _, _, hT, h => ⟨by simpa using hT, fun t => by simpa [putL] using h t⟩
  | p :: ps, [], vs, tm, T, _, hr, hT, h => by
    simp only [RepL] at hr
    subst hr
    exact ⟨by simpa using hT, fun t => by simpa [putL] using h t⟩
  | p :: ps, d :: ds, vs, tm, T, hp, hr, hT, h => by
    simp only [RepL] at hr
    obtain ⟨u, us, rfl, h1, h2⟩ := hr
    simp only [List.zip_cons_cons, List.foldl_cons, putL]
    refine putL_rel (fun q hq => hp q (List.mem_cons_of_mem _ hq)) h2 (by simpa using hT) fun t => ?_
    have hlt := hp p List.mem_cons_self
    by_cases e : p = t
    · subst e
      have e1 : upd tm p d p = d := by simp [upd]
      have e2 : (T.setIfInBounds p u).getD p undef = u := by simp [hT, hlt]
      rw [e1, e2]; exact h1
    · have e0 : Nat.beq p t = false := by cases h' : Nat.beq p t with
        | false => rfl
        | true => exact absurd (Nat.eq_of_beq_eq_true h') e
      have e1 : upd tm p d t = tm t := by simp [upd, e0]
      have e2 : (T.setIfInBounds p u).getD t undef = T.getD t undef := by simp [Array.getElem?_setIfInBounds_ne e]
      rw [e1, e2]; exact h t

def lsOf : AExit → LoopState
  | .normal => .ready
  | _ => .done
def ljOf : AExit → Option Code
  | .normal => none
  | .ret => some .ret
  | .exit i => some (.exit i)
def isNo : AExit → Bool
  | .normal => true
  | _ => false

def rdQ (id N : Nat) (ps : List Nat) (ca cb : Code) (tm0 : Fr) (K : AV → Store → Prop) : AExit → Fr → Store → Prop := fun e _ st =>
  st[id]? = some (.loop N ps ca cb tm0 .busy none) ∧ K (.bool (isNo e)) (st.set id (.loop N ps ca cb tm0 (lsOf e) (ljOf e)))
def rdA (P : Program) (E : Glob) (id N : Nat) (mu : Nat → Bool) (ps : List Nat) (ca cb : Code) (tm0 : Fr) (b : ACode) (K : AV → Store → Prop) : AExit → Fr → Store → Prop
  | .normal, tm, st => st[id]? = some (.loop N ps ca cb tm0 .ready none) ∧ XS P E N mu b (rdQ id N ps ca cb tm0 K) tm (st.set id (.loop N ps ca cb tm0 .busy none))
  | _, _, _ => False

theorem xyield {P : Program} {E : Glob} {id N : Nat} {mu : Nat → Bool} {ps : List Nat} {ca cb : Code} {a b : ACode} {tm0 : Fr} {ds : List AV} {st : Store} {K : AV → Store → Prop}
    (hin : inR mu = true) (hst : st[id]? = some (.loop N ps ca cb tm0 .ready none)) (hl : ds.length = ps.length) (hp : ∀ p ∈ ps, p < N) (h1 : compC P N mu ca = some a) (h2 : compC P N mu cb = some b)
    (h : XS P E N mu a (rdA P E id N mu ps ca cb tm0 b K) (putL tm0 ps ds) st) : XYield P E id ds st K := by
  intro G w vs hr hs
  have hid : id < G.slots.length := by rw [hs.len]; exact lt_of_getElem? hst
  have hsl : G.slots[id]? = some G.slots[id] := by simp [hid]
  have hob := hs.obj id _ _ hst hsl
  generalize G.slots[id] = s at hob hsl
  cases s <;> simp only [ObjRel] at hob
  rename_i l
  obtain ⟨⟨fn, T, D, k1, k2, k3⟩, k4⟩ := hob
  refine ⟨l, _, hsl, k1, by simp [repL_length hr, hl], ?_⟩
  obtain ⟨q1, q2⟩ := putL_rel hp hr k2 k3
  have hfold : ((ps.toArray.zip vs.toArray).foldl (fun tmps (t, a) => tmps.setIfInBounds t a) T) = (ps.zip vs).foldl (fun tmps (t, a) => tmps.setIfInBounds t a) T := by simp
  have noR : inR mu = false → some l = none := fun e => by rw [hin] at e; cases e
  have hrel : Rel 0 N E G (putL tm0 ps ds) st { tmps := (ps.toArray.zip vs.toArray).foldl (fun tmps (t, a) => tmps.setIfInBounds t a) T, defers := [] } w := by
    rw [hfold]
    exact ⟨q1, Marks.nil G (Nat.zero_le _), q2, hs⟩
  refine roundIn_of_wpIn (F := Fence.wide) trivial ?_
  refine wpIn_mono (F := fen (some l)) (h ca h1 0 (some l) G _ w noR hrel) fun e a' w' ⟨x, tm', st', G', he, hr', hext, hq⟩ => ?_
  rcases he.cases with ⟨rfl, rfl⟩ | ⟨i, rfl, rfl⟩ | ⟨rfl, rfl⟩
  · obtain ⟨hst', hb⟩ := hq
    have hb' : G'.slots[id]? = some (.box l) := by
      rcases hext.g.box _ _ hsl with h' | h'
      · exact h'
      · exact absurd (hr'.st.obj _ _ _ hst' h') (by simp [ObjRel])
    obtain ⟨r, m1, m2, m3, m4, m5, m6, m7, m8, s1, e1⟩ := loop_put (s' := .busy) (p' := none) hr'.st hst' hb'
    have erun := run_beginRound (P := P) m1 m2
    have ew : w'.putObj l (.loop { r with state := .busy }) = w'.putObj l (.loop { r with state := .busy, pending := none }) := by rw [← m3]
    refine ⟨_, erun, ?_⟩
    rw [ew]
    have hrel2 : Rel 0 N E _ tm' (st'.set id (.loop N ps ca cb tm0 .busy none)) a' (w'.putObj l (.loop { r with state := .busy, pending := none })) := ⟨hr'.size, hr'.defers.ext e1, hr'.fr.mono e1.g, s1⟩
    refine wpIn_mono (F := fen (some l)) (hb cb h2 0 (some l) _ a' _ noR hrel2) fun e2 a2 w2 ⟨x2, tm2, st2, G2, he2, hr2, hext2, hst2, hK⟩ => ?_
    have hsl1 : (G'.slots.set id (.box l))[id]? = some (.box l) := List.getElem?_set_self (lt_of_getElem? hb')
    have hb2 : G2.slots[id]? = some (.box l) := by
      rcases hext2.g.box _ _ hsl1 with h' | h'
      · exact h'
      · exact absurd (hr2.st.obj _ _ _ hst2 h') (by simp [ObjRel])
    have fin : ∀ (j : Option Code) (s : LoopState), s = (if j.isNone then LoopState.ready else .done) → K (.bool j.isNone) (st2.set id (.loop N ps ca cb tm0 s j)) →
        ∃ v w3, (Instr.endRound l j).run P w2 = .ok v w3 ∧ ∃ u x st' G', Ending.returned v = .returned u ∧ Rep G' x u ∧ StoreRel E G' st' w3 ∧ Ext G w G' w3 ∧ K x st' := by
      intro j s hs' hK'
      obtain ⟨r2, n1, n2, n3, n4, n5, n6, n7, n8, s3, e3⟩ := loop_put (s' := s) (p' := j) hr2.st hst2 hb2
      subst hs'
      exact ⟨_, _, run_endRound j n1, _, _, _, _, rfl, by simp only [Rep], s3, hext.trans (e1.trans (hext2.trans e3)), hK'⟩
    rcases he2.cases with ⟨rfl, rfl⟩ | ⟨i, rfl, rfl⟩ | ⟨rfl, rfl⟩
    · exact fin none .ready rfl hK
    · exact fin (some (.exit i)) .done rfl hK
    · exact fin (some .ret) .done rfl hK
  · exact hq.elim
  · exact hq.elim

def cR (P : Program) (E : Glob) (N : Nat) (mu : List Nat) (fin : AExit → Fr → Store → Prop) : Cx := ⟨P, E, N, rnd (muL mu), [], fun _ _ => True, fin⟩
theorem bR' {P : Program} {E : Glob} {id N : Nat} {mu : List Nat} {ps : List Nat} {ca cb : Code} {a b : ACode} {tm0 : Fr} {ds : List AV} {st : Store} {L : List Asn} {K : AV → Store → Prop}
    (h1 : compC P N (rnd (muL mu)) ca = some a) (h2 : compC P N (rnd (muL mu)) cb = some b) (hs : SH st (pt id (.loop N ps ca cb tm0 .ready none) :: L)) (hl : Nat.beq ds.length ps.length = true) (hp : ps.all (fun p => Nat.blt p N) = true)
    (ha : ∀ st, SH st (pt id (.loop N ps ca cb tm0 .busy none) :: L) → True)
    (h : W (cR P E N mu (rdA P E id N (rnd (muL mu)) ps ca cb tm0 b K)) [.code a] (putL tm0 ps ds) st) : XYield P E id ds st K := by
  refine xyield (inR_rnd _) hs.at0 (Nat.eq_of_beq_eq_true hl) (fun p hp' => ?_) h1 h2 (W.code.1 h)
  have := List.all_eq_true.1 hp p hp'
  exact Nat.le_of_ble_eq_true this
theorem rdW {P : Program} {E : Glob} {id N : Nat} {mu : List Nat} {ps : List Nat} {ca cb : Code} {b : ACode} {tm tm0 : Fr} {st : Store} {L : List Asn} {K : AV → Store → Prop}
    (hs : SH st (pt id (.loop N ps ca cb tm0 .ready none) :: L))
    (h : ∀ st, SH st (pt id (.loop N ps ca cb tm0 .busy none) :: L) → W (cR P E N mu (rdQ id N ps ca cb tm0 K)) [.code b] tm st) : W (cR P E N mu (rdA P E id N (rnd (muL mu)) ps ca cb tm0 b K)) [] tm st :=
  ⟨hs.at0, W.code.1 (h _ (hs.set0 _))⟩
theorem rdN {P : Program} {E : Glob} {id N : Nat} {mu : List Nat} {ps : List Nat} {ca cb : Code} {tm tm0 : Fr} {st : Store} {L : List Asn} {K : AV → Store → Prop}
    (hs : SH st (pt id (.loop N ps ca cb tm0 .busy none) :: L)) (hK : ∀ st, SH st (pt id (.loop N ps ca cb tm0 .ready none) :: L) → K (.bool true) st) : W (cR P E N mu (rdQ id N ps ca cb tm0 K)) [] tm st :=
  ⟨hs.at0, hK _ (hs.set0 _)⟩
theorem rdR {P : Program} {E : Glob} {id N : Nat} {mu : List Nat} {ps : List Nat} {ca cb : Code} {tm tm0 : Fr} {st : Store} {L : List Asn} {K : AV → Store → Prop} {k : List KJ}
    (hs : SH st (pt id (.loop N ps ca cb tm0 .busy none) :: L)) (hK : ∀ st, SH st (pt id (.loop N ps ca cb tm0 .done (some .ret)) :: L) → K (.bool false) st) : W (cR P E N mu (rdQ id N ps ca cb tm0 K)) (.code .ret :: k) tm st :=
  rfin ⟨hs.at0, hK _ (hs.set0 _)⟩
instance (cs : List AV) [h : DtL cs] : DtV (.dptr cs) := ⟨⟨by simp only [AV.data]; exact h.h.1, by simp only [AV.strip]; rw [h.h.2]⟩⟩
instance (f : FuncId) (cs : List AV) [h : DtL cs] : DtV (.fn f cs) := ⟨⟨by simp only [AV.data]; exact h.h.1, by simp only [AV.strip]; rw [h.h.2]⟩⟩
instance : DtV .nilfn := ⟨⟨rfl, rfl⟩⟩
def lsW : Nat → LoopState
  | 0 => .ready
  | _ + 1 => .done
def ljW : List Code → Nat → Option Code
  | _, 0 => none
  | [], _ + 1 => none
  | c :: _, 1 => some c
  | _ :: l, n + 2 => ljW l (n + 1)
theorem ni {p : Prop} [Decidable p] {α : Type} {A B : Option α} {r : α} {Q : Prop} (hF : (if p then A else B) = some r) (h1 : p → A = some r → Q) (h2 : ¬ p → B = some r → Q) : Q := by
  by_cases h : p
  · rw [if_pos h] at hF; exact h1 h hF
  · rw [if_neg h] at hF; exact h2 h hF
theorem putL1 {tm : Fr} {l : List (Nat × AV)} (hf : Frm tm l) (p : Nat) (v : AV) : putL tm [p] [v] = updL tm ((p, v) :: l) := by
  show upd tm p v = upd (updL tm l) p v
  rw [Frm.eq hf]
section
variable {X : Cx} {k : List KJ} {tm : Fr} {fr : List (Nat × AV)} {st : Store} {l : List AOp} {d : Nat} {x y i a : AX} {L L' : List Asn}

def RgQ (X : Cx) (k : List KJ) (tm : Fr) (id : Nat) (ps : List Nat) (ca cb : Code) (st : Store) : Prop :=
  ∃ s p, st[id]? = some (.loop X.N ps ca cb tm s p) ∧ s ≠ .busy ∧ (match p with
    | none => wQ X k .normal tm (st.set id .dead)
    | some .ret => wQ X k .ret tm (st.set id .dead)
    | some (.exit i) => wQ X k (.exit i) tm (st.set id .dead)
    | _ => False)
theorem rgN {id : Nat} {ps : List Nat} {ca cb : Code} {s : LoopState} (hs : SH st (pt id (.loop X.N ps ca cb tm s none) :: L)) (hb : s ≠ .busy) (h : ∀ st, SH st L → W X k tm st) : RgQ X k tm id ps ca cb st := ⟨s, none, hs.at0, hb, h _ hs.kill⟩
theorem rgR {id : Nat} {ps : List Nat} {ca cb : Code} {s : LoopState} (hX : ∀ tm st, X.fin .normal tm st = X.fin .ret tm st) (hs : SH st (pt id (.loop X.N ps ca cb tm s (some .ret)) :: L)) (hb : s ≠ .busy) (h : ∀ st, SH st L → W X [] tm st) : RgQ X k tm id ps ca cb st :=
  ⟨s, some .ret, hs.at0, hb, by
    show wQ X k .ret tm _
    rw [wQ_ret, ← hX]
    exact h _ hs.kill⟩

theorem rg {N : Nat} {z : AX} {ps : List Nat} {a b : ACode} {f : FuncId} {caps : List AV} (hN : X.N = N) (hs : SH st L) (hz : (updL tm fr).x z = .fn f caps) (hc : callable X.P f = true)
    (h : ∀ (ca cb : Code) (st : Store) (id : Nat), compC X.P X.N (rnd X.mu) ca = some a → compC X.P X.N (rnd X.mu) cb = some b → SH st (pt id (.loop N ps ca cb (updL tm fr) .ready none) :: L) → XCall X.P X.E f (.yld id :: caps) st fun _ st => RgQ X k (updL tm fr) id ps ca cb st) : W X (.code (.range z ps a b) :: k) (updL tm fr) st := by
  subst hN
  rw [W.code]
  refine XS.of ?_
  simp only [xCode, hz]
  refine ⟨hc, fun ca cb h1 h2 => (h ca cb _ _ h1 h2 (hs.push _)).mono fun v st' ⟨s, p, q1, q2, q3⟩ => ⟨s, p, q1, q2, ?_⟩⟩
  cases p with
  | none => exact q3
  | some c => cases c <;> exact q3

theorem so {id off : Nat} {cs cs' : List AV} {v : AV} (hs : SH st L) (j : Nat) (hp : (updL tm fr).x a = .ptr id off) (hj : L[j]? = some (pt id (.cells cs))) (hx : (updL tm fr).x x = v) (hv : v.cells = [v] ∧ v.one = true) (hb : Nat.ble (off + 1) cs.length = true) (hc : cs.take off ++ [v] ++ cs.drop (off + 1) = cs')
    (hL : setL L j (pt id (.cells cs')) = some L') (hk : ∀ st, SH st L' → W X (.ops l :: k) (updL tm fr) st) : W X (.ops (⟨.none, .none, .plain (.store 1 a x)⟩ :: l) :: k) (updL tm fr) st := by
  refine sr hs j hp hj ?_ (by rw [hx, hv.1]; exact hc) hL hk
  rw [hx]
  simp only [stOk, hv.1, List.all_cons, hv.2, List.all_nil, Bool.and_true, hb]
  rfl
theorem rvV_c {α : Type} {es : Nat} {o : Sl α} {id : Nat} : (rvV es o id).cells = [rvV es o id] ∧ (rvV es o id).one = true := by cases o <;> exact ⟨rfl, rfl⟩
theorem ownV_c {α : Type} {es : Nat} {f : α → AV} {o : Sl α} {id : Nat} : (ownV es f o id).cells = [ownV es f o id] ∧ (ownV es f o id).one = true := by cases o <;> exact ⟨rfl, rfl⟩
theorem cy {f : AX} {id : Nat} {xs : List AX} {ds : List AV} (hf : (updL tm fr).x f = .yld id) (ha : xs.map (updL tm fr).x = ds) (h : XYield X.P X.E id ds st fun v st => W X (.ops l :: k) (updL tm ((d, v) :: fr)) st) : W X (.ops (⟨.some d, .none, .callv f xs⟩ :: l) :: k) (updL tm fr) st := by
  subst ha
  rw [W.ops, xOps_callv, hf, XCV_yld]
  refine h.mono fun v st' hw => ?_
  rw [put_upd]; exact W.ops.1 hw
theorem cvd {f : AX} {g : FuncId} {caps : List AV} {xs : List AX} {ds : List AV} {v : AV} (hf : (updL tm fr).x f = .fn g caps) (hc : callable X.P g = true) (h : DFun X.P X.E g ds v) [hd : DtL ds] (ha : xs.map (updL tm fr).x ++ caps = ds) (hk : W X (.ops l :: k) (updL tm ((d, v) :: fr)) st) : W X (.ops (⟨.some d, .none, .callv f xs⟩ :: l) :: k) (updL tm fr) st := by
  rw [W.ops] at hk ⊢
  rw [xOps_callv, hf, XCV_fn]
  exact ⟨hc, xc_fun h (by rw [ha]; exact hd.h.1) (by rw [ha]; exact hd.h.2) (by rw [put_upd]; exact hk)⟩
theorem e_boxD {E : Glob} {n : Nat} {cs : List AV} (h : (tm.x x).cells = cs) (hn : Nat.beq cs.length n = true) (h1 : cs.all AV.one = true) : evalAI E tm st (.boxD n x) = some (.dptr cs, st) := by
  subst h
  simp only [evalAI]
  rw [if_pos ⟨Nat.eq_of_beq_eq_true hn, h1⟩]
end

theorem e_bslG {α : Type} {E : Glob} {tm : Fr} {st : Store} {es len : Nat} {ag : Bool} {zero : List AV} {parts : List (Nat × Nat × AX)} {ps : List (Nat × List AV)} {f : α → AV} {c : α → List AV} (m : List α)
    (hp : partsOk (len * es) parts tm = some ps) (hps : ps = plc es 0 (m.map c)) (hz : zero.length = es) (hc : ∀ x, (c x).length = es) (h1 : ∀ x, (c x).all AV.one = true) (hf : ∀ x, ofCells ag (c x) = f x) (hl : m.length = len) : evalAI E tm st (.bslD es len ag zero parts) = some (slV es f (some m), st) := by
  subst hl
  have e1 : fillA (rep0 zero m.length) ps = m.flatMap c := by
    have := fill_plc hz (m.map c) [] (by intro y hy; obtain ⟨x, _, rfl⟩ := List.mem_map.1 hy; exact hc x)
    rw [List.length_map] at this
    rw [hps]
    simpa [List.flatMap_def] using this
  simp only [evalAI, hp]
  have e2 : (m.flatMap c).all AV.one = true := by
    simp only [List.all_flatMap]
    exact List.all_eq_true.2 fun z _ => h1 z
  rw [e1, if_pos e2, chunks_flat hc hf m]
  rfl

theorem frz_cell {E : Glob} {G : Gh} {st : Store} {w : World} {id1 id2 off es : Nat} {cs : List AV} {α : Type} {c : α → List AV} {g : α → AV} {l : List α} (hs : StoreRel E G st w) (h1 : st[id1]? = some (.cells cs)) (hk : cs[off]? = some (.row id2 es 0 l.length)) (h2 : st[id2]? = some (.cells (l.flatMap c)))
    (hes : 0 < es) (hc : ∀ x, (c x).length = es) (ha : ∀ x, (c x).all AV.one = true) (hf : ∀ x, ofCells (!(es == 1)) (c x) = g x) (hg : ∀ x, DS (g x) (g x)) (hne : id1 ≠ id2) :
    ∃ G', StoreRel E G' ((st.set id2 AObj.dead ++ [AObj.tail l.length]).set id1 (.cells (cs.set off (slV es g (some l))))) w ∧ Ext G w G' w := by
  have hid1 : id1 < G.slots.length := by rw [hs.len]; exact lt_of_getElem? h1
  have hsl : G.slots[id1]? = some G.slots[id1] := by simp [hid1]
  have hob := hs.obj id1 _ _ h1 hsl
  generalize G.slots[id1] = s at hob hsl
  cases s <;> simp only [ObjRel] at hob
  rename_i b
  obtain ⟨⟨arr, e, fz, p1, p2, p3, p4⟩, p5⟩ := hob
  obtain ⟨u, hu, hru⟩ := repL_get p3 off _ hk
  have hl : (l.flatMap c).length = l.length * es := flat_len hc l
  have hall : (l.flatMap c).all AV.one = true := by
    simp only [List.all_flatMap]; exact List.all_eq_true.2 fun z _ => ha z
  obtain ⟨G2, s2, x2, r2⟩ := freeze_row hs hru h2 hl hes hall
  have e2 : (chunks es l.length (l.flatMap c)).map (ofCells (!(es == 1))) = l.map g := chunks_flat hc hf l
  rw [e2] at r2
  have hd : DS (.sl es (l.map g) (some st.length)) (slV es g (some l)) := ds_rd hg (.inr ⟨l, some st.length, rfl, rfl⟩)
  have r3 := strip_rep (G := G2) (G' := G2) (fun _ _ _ h => h) hd.1 r2
  rw [hd.2] at r3
  have hst1 : (st.set id2 AObj.dead ++ [AObj.tail l.length])[id1]? = some (.cells cs) := by
    rw [List.getElem?_append_left (by rw [List.length_set]; exact lt_of_getElem? h1), List.getElem?_set_ne hne.symm]; exact h1
  have hb2 : G2.slots[id1]? = some (.box b) := by
    rcases x2.g.box _ _ hsl with h' | h'
    · exact h'
    · exact absurd (s2.obj _ _ _ hst1 h') (by simp [ObjRel])
  refine ⟨G2, re_obj s2 hb2 ?_, x2⟩
  obtain ⟨⟨arr', e', fz', q1, q2, q3, q4⟩, q5⟩ := s2.obj _ _ _ hst1 hb2
  rw [p1] at q1; cases q1
  refine ⟨⟨arr, e, fz, p1, by simpa using p2, ?_, p4⟩, q5⟩
  have := repL_set off q3 r3
  rw [List.length_set]
  have e3 : (arr.toList.take cs.length).set off u = arr.toList.take cs.length := by
    refine List.ext_getElem? fun i => ?_
    by_cases e : off = i
    · subst e; rw [List.getElem?_set_self (lt_of_getElem? hu), hu]
    · rw [List.getElem?_set_ne e]
  rw [e3] at this; exact this
theorem XS.same {P : Program} {E : Glob} {N : Nat} {mu : Nat → Bool} {b : ACode} {Q : AExit → Fr → Store → Prop} {tm : Fr} {st st' : Store} (hs : ∀ G w, StoreRel E G st w → ∃ G', StoreRel E G' st' w ∧ Ext G w G' w) (h : XS P E N mu b Q tm st') : XS P E N mu b Q tm st := fun c hc B ro G a w hro hr => by
  obtain ⟨G', s', x'⟩ := hs G w hr.st
  exact wpIn_mono (h c hc B ro G' a w hro (hr.ext x' s')) fun e a' w' ⟨x, tm', st2, G2, q1, q2, q3, q4⟩ => ⟨x, tm', st2, G2, q1, q2, x'.trans q3, q4⟩
theorem frz {X : Cx} {k : List KJ} {tm : Fr} {st : Store} {x : ACode} {L : List Asn} {id1 id2 off es : Nat} {cs cs' : List AV} {α : Type} {c : α → List AV} {g : α → AV} [hg : DtF g] {o : Sl α} (hs : SH st (pt id1 (.cells cs) :: rvA c id2 o :: L)) (hk : cs[off]? = some (rvV es o id2)) (hc' : cs.set off (slV es g o) = cs')
    (hes : Nat.ble 1 es = true) (hc : ∀ x, (c x).length = es) (h1 : ∀ x, (c x).all AV.one = true) (hf : ∀ x, ofCells (!(es == 1)) (c x) = g x) (h : ∀ st, SH st (pt id1 (.cells cs') :: L) → W X (.code x :: k) tm st) : W X (.code x :: k) tm st := by
  subst hc'
  cases o with
  | none =>
    refine h st ?_
    have e : cs.set off (slV es g none) = cs := by
      refine List.ext_getElem? fun i => ?_
      by_cases e : off = i
      · subst e; rw [List.getElem?_set_self (lt_of_getElem? hk), hk]; rfl
      · rw [List.getElem?_set_ne e]
    rw [e]
    obtain ⟨a, b, q1, ⟨a', b', q2, q3, q4, q5⟩, q6, q7⟩ := hs
    refine ⟨a, b, q1, ?_, q6, q7⟩
    refine starL_congr (fun i => ?_) q3
    rw [q5 i, PH.or_r (q2 i)]
  | some l =>
    have hne : id1 ≠ id2 := by
      obtain ⟨a, b, q1, ⟨a', b', q2, q3, q4, q5⟩, q6, q7⟩ := hs
      intro e
      subst e
      have e1 : a id1 = some (.cells cs) := by rw [q1 id1, if_pos rfl]
      have e2 : b id1 = some (.cells (l.flatMap c)) := by rw [q5 id1]; exact PH.or_l (by rw [q2 id1, if_pos rfl])
      rcases q6 id1 with e3 | e3
      · rw [e1] at e3; cases e3
      · rw [e2] at e3; cases e3
    have g1 : st[id1]? = some (.cells cs) := hs.g 0 rfl
    have g2 : st[id2]? = some (.cells (l.flatMap c)) := hs.g 1 rfl
    have hlt1 := lt_of_getElem? g1
    have h3 : SH (st.set id2 AObj.dead) (pt id1 (.cells cs) :: L) := by
      have := SH.set hs (j := 1) (id := id2) rfl .dead
      exact this.p 2 [0] rfl
    have h4 : SH (st.set id2 AObj.dead ++ [AObj.tail l.length]) (pt id1 (.cells cs) :: L) := (h3.push (.tail l.length)).tail
    have h5 := h4.set0 (.cells (cs.set off (slV es g (some l))))
    have h6 := h _ h5
    rw [W.code] at h6 ⊢
    exact XS.same (fun G w hr => frz_cell hr g1 hk g2 (Nat.le_of_ble_eq_true hes) hc h1 hf hg.h hne) h6
theorem e_faddrH {E : Glob} {tm : Fr} {st : Store} {x : AX} {id o off : Nat} (hp : tm.x x = .ptr id o) (ho : st[id]? = some .hid) : evalAI E tm st (.faddr off x) = some (.ptr id (o + off), st) := by
  simp only [evalAI, hp, alive, ho, if_true]
theorem e_ixT {E : Glob} {tm : Fr} {st : Store} {x i : AX} {len : Nat} {k : IntKind} {n : Int} {m : Nat} {cs : List AV} {v : AV} (hx : tm.x x = .agg cs) (hi : tm.x i = .int k n) (hn : n = (m : Int)) (hm : Nat.blt m len = true) (hc : cs[m]? = some v) : evalAI E tm st (.ixA1 len 1 x i) = some (v, st) := by
  subst hn
  refine e_ixA1 hx hi ⟨Int.natCast_nonneg _, by exact_mod_cast Nat.le_of_ble_eq_true hm⟩ ?_
  have hlt := (List.getElem?_eq_some_iff.1 hc).1
  refine ⟨cs.take m, cs.drop (m + 1), ?_, ?_, by simp; omega⟩ <;>
  · have e : cs[m] = v := (List.getElem?_eq_some_iff.1 hc).2
    rw [← e]
    simp
end Go.Proofs.YtcidnoghoifmmaaDoor.AW
end
section
/-
  What an argument holds, by its type: readers with fuel, so that types that hold slices of themselves have one too.
-/


set_option linter.unusedVariables false
namespace Go.Proofs.YtcidnoghoifmmaaDoor.AW
open Go Go.RowKit Go.WideShapes Go.ChangeShapes Go.Deep
structure RdF {H : Type} {α : Type} (n : Nat) (enc : TypeId × Value → H) (P : Program) (W : World) (base : Nat) (t : TypeId) (c : α → List AV) (ok : α → Prop) (bk : α → Nat) : Prop where
  rd : ∀ {fuel : Nat} {cs : List Value} {x : DataW H × List MemPlace}, fuel ≤ n → DataW.trod enc P W base (fun _ => true) true fuel t cs = some x →
    ∃ a, RepL (G0 W) (c a) cs ∧ (∀ u ∈ cs, u.oneCell' = true) ∧ ok a ∧ bk a ≤ Rows.uptoBulk x.1
section
variable {H : Type} {enc : TypeId × Value → H} {P : Program} {W : World} {base : Nat} {t : TypeId} {n : Nat}
theorem RdF.all {α : Type} {c : α → List AV} {ok : α → Prop} {bk : α → Nat} (h : ∀ n, RdF n enc P W base t c ok bk) : RdOk enc P W base t c ok bk := ⟨fun {fuel cs x} e => (h fuel).rd (Nat.le_refl _) e⟩
theorem RdOk.fu {α : Type} {c : α → List AV} {ok : α → Prop} {bk : α → Nat} (h : RdOk enc P W base t c ok bk) : RdF n enc P W base t c ok bk := ⟨fun _ e => h.rd e⟩
theorem rfI {k : IntKind} (ht : P.underlying t = some (.int k)) : RdF n enc P W base t (cI k) (okI k) bk1 := (rdI ht).fu
def okA {n : Nat} (k : IntKind) (a : Arr n Int) : Prop := ∀ y ∈ a.l, okI k y
theorem bulk_pos (d : DataW H) : 1 ≤ Rows.uptoBulk d := by
  cases d with
  | lit l => cases l <;> simp [Rows.uptoBulk]
  | nil => simp [Rows.uptoBulk]
  | ptr d => simp [Rows.uptoBulk]
  | slice elems spare => simp [Rows.uptoBulk]
  | agg parts => simp [Rows.uptoBulk]
  | iface t d => simp [Rows.uptoBulk]
  | map entries => simp [Rows.uptoBulk]
  | held h => simp [Rows.uptoBulk]
theorem rfA {e : TypeId} {m : Nat} {k : IntKind} {c : Arr m Int → List AV} (hc' : ∀ a, c a = cA (cI k) a) (ht : P.underlying t = some (.array m e)) (he : P.underlying e = some (.int k)) (hc : P.cellsOf e = 1) (hct : P.cellsOf t = m) : RdF n enc P W base t c (okA k) bk1 := ⟨fun {fuel cs x} _ h => by
  obtain ⟨l, hl, rfl, hw⟩ := open_arr ht he hc hct h
  refine ⟨⟨l, hl⟩, ?_, ?_, hw, bulk_pos _⟩
  · rw [hc']; exact repl_ints k l
  · intro u hu
    obtain ⟨z, _, rfl⟩ := List.mem_map.1 hu
    rfl⟩
theorem rfSl {α : Type} {e : TypeId} {es : Nat} {c : α → List AV} {ok : α → Prop} {bk : α → Nat} {f : α → AV} (ht : P.underlying t = some (.slice e)) (hc : P.cellsOf e = es) (hes : 0 < es)
    (re : RdF n enc P W base e c ok bk) (hf : ∀ a us, RepL (G0 W) (c a) us → us.length = es → ∃ u : Value, Rep (G0 W) (f a) u ∧ u.cells.toList = us) : RdF (n + 1) enc P W base t (cSl es f) (fun o => ∀ x ∈ ls o, ok x) (bkSl bk) := ⟨fun {fuel cs x} hle hfu => by
  rcases DataW.trod_slice ht hfu with ⟨hcs, hx⟩ | ⟨a, len, cap, elems, rest, n0, hfuel, hcs, hd, hb, hl, hcm, hlen, hel, hsp0, _⟩
  · subst hcs
    cases hx
    exact ⟨none, by simp only [cSl, slV, RepL, Rep]; exact ⟨_, _, rfl, rfl, rfl⟩, by simp [Value.oneCell'], fun _ h => by simp [ls] at h, by simp [bkSl, ls, Rows.uptoBulk]⟩
  · subst hcs
    cases hd
    obtain ⟨b, off, spot⟩ := a
    have hspot : spot = none ∨ cap = 0 := by
      by_cases hcap : cap = 0
      · exact .inr hcap
      · left
        have h0 : ∃ y, (W.cells? base ((⟨b, off, spot⟩ : Addr).add (0 * P.cellsOf e)) (P.cellsOf e)).bind (DataW.trod enc P W base (fun _ => true) true n0 e) = some y := by
          by_cases hl0 : 0 < len
          · have := hel 0 hl0
            rw [this]
            exact ⟨elems[0]'(by omega), by simp⟩
          · obtain ⟨hr1, hr2⟩ := hsp0 rfl
            have := hr2 0 (by omega)
            have e0 : len + 0 = 0 := by omega
            rw [e0] at this
            rw [this]
            exact ⟨rest[0]'(by omega), by simp⟩
        obtain ⟨y, hy⟩ := h0
        obtain ⟨cs', h1, _⟩ := Option.bind_eq_some_iff.1 hy
        obtain ⟨_, hlen', hce⟩ := World.cells?_some h1
        have := hce 0 (by omega)
        have h2 : (((⟨b, off, spot⟩ : Addr).add (0 * P.cellsOf e)).add 0) = ⟨b, off, spot⟩ := by simp [Addr.add]
        rw [h2] at this
        have h3 : cs'[0]? = some (cs'[0]'(by omega)) := by simp
        rw [h3] at this
        exact World.cell?_spot this
    obtain ⟨l, hll, hq⟩ := ex_list (Q := fun i (y : α) => ∃ us : List Value, RepL (G0 W) (c y) us ∧ us.length = es ∧ (∀ j z, us[j]? = some z → M0 W b (off + i * es + j) = some z) ∧ ok y ∧ bk y ≤ Rows.uptoBulk ((elems.getD i (.nil, [])).1)) len fun i hi => by
      have hcap : ¬ cap = 0 := by omega
      obtain rfl : spot = none := hspot.resolve_right hcap
      have h0 := hel i hi
      have h3 : elems[i]? = some (elems[i]'(by omega)) := by simp
      rw [h3] at h0
      obtain ⟨cs', h1, h2⟩ := Option.bind_eq_some_iff.1 h0
      rw [hc] at h1
      obtain ⟨_, hlen', hce⟩ := World.cells?_some h1
      obtain ⟨y, y1, y2, y3, y4⟩ := re.rd (by omega) h2
      refine ⟨y, cs', y1, hlen', fun j z hz => ?_, y3, by simpa [List.getD, h3] using y4⟩
      have hj : j < es := by have := lt_of_getElem? hz; omega
      have := hce j hj
      rw [hz] at this
      have e2 : ((⟨b, off, none⟩ : Addr).add (i * es)).add j = ⟨b, off + i * es + j, none⟩ := by rw [addr_add, addr_add]
      rw [e2] at this
      exact M0_some this (y2 z (List.mem_of_getElem? hz))
    refine ⟨some l, ?_, by simp [Value.oneCell'], ?_, ?_⟩
    · have hr : Rep (G0 W) (slV es f (some l)) (.slice (some ⟨b, off, spot⟩) len cap) := by
        simp only [slV, Rep]
        refine ⟨b, off, cap, reps_list l off fun i y hy => ?_, by simp; omega, trivial, spot, hspot.imp_right fun h => ⟨h, trivial⟩, by simp; omega⟩
        obtain ⟨us, u1, u2, u3, _, _⟩ := hq i y hy
        obtain ⟨u, w1, w2⟩ := hf y us u1 u2
        refine ⟨u, w1, by have := congrArg List.length w2; simpa [u2] using this, fun j z hz => u3 j z ?_⟩
        rw [← w2]; simpa using hz
      simp only [cSl]
      exact repl_cons hr repl_nil
    · intro y hy
      obtain ⟨i, hi⟩ := List.getElem?_of_mem hy
      obtain ⟨_, _, _, _, h4, _⟩ := hq i y hi
      exact h4
    · have := sum_le (bk := bk) (D := fun i => (elems.getD i (.nil, [])).1) l 0 fun i y hy => by
        obtain ⟨_, _, _, _, _, h5⟩ := hq i y hy
        simpa using h5
      have e3 : (List.range l.length).map (fun i => (elems.getD (0 + i) (.nil, [])).1) = elems.map (·.1) := by
        apply List.ext_getElem?
        intro i
        simp only [List.getElem?_map, hll, Nat.zero_add]
        by_cases hi : i < len
        · rw [List.getElem?_range hi]
          have h3 : elems[i]? = some (elems[i]'(by omega)) := by simp
          simp [List.getD, h3]
        · rw [List.getElem?_eq_none (by simp; omega), List.getElem?_eq_none (by omega)]
          rfl
      rw [e3] at this
      simp only [bkSl, ls, Option.getD_some, Rows.uptoBulk]
      omega⟩
structure RdT {γ : Type} (n : Nat) (enc : TypeId × Value → H) (P : Program) (W : World) (base : Nat) (fs : Array Field) (i o m : Nat) (c : γ → List AV) (ok : γ → Prop) (bk : γ → Nat) : Prop where
  rd : ∀ {n0 : Nat} {cs : List Value} {xs : List (DataW H × List MemPlace)}, n0 ≤ n → cs.length = m → xs.length = fs.size → (∀ (i : Nat) (f : Field), fs[i]? = some f → DataW.trod enc P W base (fun _ => true) true n0 f.type ((cs.drop f.offset).take (P.cellsOf f.type)) = xs[i]?) →
    ∃ a, RepL (G0 W) (c a) (cs.drop o) ∧ (∀ u ∈ cs.drop o, u.oneCell' = true) ∧ ok a ∧ bk a ≤ Rows.uptoBulkAll ((xs.drop i).map (·.1))
theorem rtNil {fs : Array Field} {m i : Nat} : RdT n enc P W base fs i m m (fun _ : Unit => []) (fun _ => True) (fun _ => 0) := ⟨fun _ hl _ _ => ⟨(), by rw [List.drop_of_length_le (by omega)]; exact repl_nil, by rw [List.drop_of_length_le (by omega)]; simp, trivial, Nat.zero_le _⟩⟩
theorem rtCons {fs : Array Field} {m i o o' : Nat} {f : Field} {α γ : Type} {c : α → List AV} {ok : α → Prop} {bk : α → Nat} {c' : γ → List AV} {ok' : γ → Prop} {bk' : γ → Nat} (hf : fs[i]? = some f) (ho : f.offset = o) (ho' : o + P.cellsOf f.type = o')
    (h : RdF n enc P W base f.type c ok bk) (h' : RdT n enc P W base fs (i + 1) o' m c' ok' bk') : RdT n enc P W base fs i o m (fun a : α × γ => c a.1 ++ c' a.2) (fun a => ok a.1 ∧ ok' a.2) (fun a => bk a.1 + bk' a.2) := ⟨fun {n0 cs xs} hn hl hx each => by
  have hi : i < fs.size := (Array.getElem?_eq_some_iff.1 hf).1
  have h0 := each i f hf
  have hxi : xs[i]? = some (xs[i]'(by omega)) := by simp
  rw [hxi, ho] at h0
  obtain ⟨a, a1, a2, a3, a4⟩ := h.rd hn h0
  obtain ⟨b, b1, b2, b3, b4⟩ := h'.rd hn hl hx each
  have e : cs.drop o = (cs.drop o).take (P.cellsOf f.type) ++ cs.drop o' := by
    rw [← ho', ← List.drop_drop, List.take_append_drop]
  refine ⟨(a, b), ?_, ?_, ⟨a3, b3⟩, ?_⟩
  · rw [e]; exact repL_append a1 b1
  · intro u hu
    rw [e] at hu
    rcases List.mem_append.1 hu with k | k
    · exact a2 u k
    · exact b2 u k
  · have e2 : xs.drop i = xs[i]'(by omega) :: xs.drop (i + 1) := List.drop_eq_getElem_cons (by omega)
    rw [e2, List.map_cons, Rows.uptoBulkAll]
    exact Nat.add_le_add a4 b4⟩
theorem rfT {fs : Array Field} {m : Nat} {γ δ : Type} {c : γ → List AV} {ok : γ → Prop} {bk : γ → Nat} {c' : δ → List AV} {ok' : δ → Prop} {bk' : δ → Nat} (mk : γ → δ) (ht : P.underlying t = some (.struct fs)) (hm : P.cellsOf t = m) (h : RdT n enc P W base fs 0 0 m c ok bk)
    (hc : ∀ a, c' (mk a) = c a) (hok : ∀ a, ok a → ok' (mk a)) (hbk : ∀ a, bk' (mk a) ≤ bk a + 1) : RdF (n + 1) enc P W base t c' ok' bk' := ⟨fun {fuel cs x} hle hfu => by
  obtain ⟨xs, n0, hfuel, rfl, hlen, hxl, each⟩ := DataW.trod_struct ht hfu
  obtain ⟨a, a1, a2, a3, a4⟩ := h.rd (by omega) (by omega) hxl each
  rw [List.drop_zero] at a1 a2
  rw [List.drop_zero] at a4
  refine ⟨mk a, by rw [hc]; exact a1, a2, hok a a3, ?_⟩
  have := hbk a
  simp only [Rows.uptoBulk]
  omega⟩
theorem RdF.mono {α : Type} {c : α → List AV} {ok : α → Prop} {bk : α → Nat} {m : Nat} (h : RdF n enc P W base t c ok bk) (hm : m ≤ n) : RdF m enc P W base t c ok bk := ⟨fun hle e => h.rd (Nat.le_trans hle hm) e⟩
theorem arg_agg {α : Type} {c : α → List AV} {ok : α → Prop} {bk : α → Nat} {v : Value} {d : DataW H} {ps : List MemPlace} (hv : ∃ cs, v = .agg cs) (re : RdOk enc P W base t c ok bk) (h : DataW.Trod enc P W base (fun _ => true) true t v d ps) :
    ∃ a, Rep (G0 W) (.agg (c a)) v ∧ ok a ∧ bk a ≤ Rows.uptoBulk d := by
  obtain ⟨cs, rfl⟩ := hv
  obtain ⟨fuel, hfu⟩ := h
  obtain ⟨a, h1, h2, h3, h4⟩ := re.rd hfu
  refine ⟨a, ?_, h3, h4⟩
  simp only [Rep]
  exact ⟨cs.toList, h1, by simp⟩
theorem okWide_st {t : TypeId} {fs : Array Field} {r : Reach} {b0 : Nat} {v : Value} (ht : P.underlying t = some (.struct fs)) (hval : Value.okWide P W r b0 t v) : ∃ cs, v = .agg cs := by
  simp only [Value.okWide, ht] at hval
  obtain ⟨cs, h, _⟩ := hval
  exact ⟨cs, h⟩
end
end Go.Proofs.YtcidnoghoifmmaaDoor.AW
end
section
/-
  A builder of strings: what is said of it, and its functions' laws. (What a program's own functions do is proved in its own text.)
-/



set_option linter.unusedVariables false
set_option linter.unusedSimpArgs false
set_option linter.unusedVariables false
namespace Go.Proofs.YtcidnoghoifmmaaDoor.AW
open Go Go.RowKit

def ownT (T id : Nat) (o : Sl Int) : Asn := match o with
  | none => emp
  | some l => pt id (.tail l.length (some T))
def bo (s : Str) : Sl Int := match s with
  | [] => none
  | b :: s => some (ofBs (b :: s))
theorem ls_bo (s : Str) : ls (bo s) = ofBs s := by cases s <;> rfl
theorem sapp_bo (s t : Str) : sapp (bo s) (ofBs t) = bo (s ++ t) := by
  cases s with
  | nil => cases t <;> rfl
  | cons b s => simp [bo, sapp, ls, ofBs]

def bldC (id : Nat) (s : Str) (idt : Nat) : List AV := [.ptr id 0, ownV 1 (AV.int .u8) (bo s) idt]
def bldU (T id : Nat) (s : Str) : Asn := fun h => ∃ idt, starL [pt id (.cells (bldC id s idt)), ownT T idt (bo s)] h
def bldA (TB T id : Nat) (s : Str) : Asn := fun h => (s = [] ∧ pt id (.cells [.nilB id TB 2, .nils]) h) ∨ bldU T id s h

theorem SH.open_ {st : Store} {L : List Asn} {ι : Type} {Q : ι → List Asn} (hs : SH st ((fun h => ∃ i, starL (Q i) h) :: L)) : ∃ i, SH st (Q i ++ L) := by
  obtain ⟨a, b, ⟨i, h1⟩, h2, h3, h4⟩ := hs
  exact ⟨i, starL_app.2 ⟨a, b, h1, h2, h3, h4⟩⟩
theorem SH.close_ {st : Store} {L : List Asn} {ι : Type} {Q : ι → List Asn} {i : ι} (hs : SH st (Q i ++ L)) : SH st ((fun h => ∃ i, starL (Q i) h) :: L) := by
  obtain ⟨a, b, h1, h2, h3, h4⟩ := starL_app.1 hs
  exact ⟨a, b, ⟨i, h1⟩, h2, h3, h4⟩
theorem SH.usedO {st : Store} {L : List Asn} {T id : Nat} {s : Str} (hs : SH st (bldU T id s :: L)) : ∃ idt, SH st (pt id (.cells (bldC id s idt)) :: ownT T idt (bo s) :: L) := hs.open_ (Q := fun idt => [pt id (.cells (bldC id s idt)), ownT T idt (bo s)])
theorem SH.usedC {st : Store} {L : List Asn} {T id : Nat} {s : Str} {idt : Nat} (hs : SH st (pt id (.cells (bldC id s idt)) :: ownT T idt (bo s) :: L)) : SH st (bldU T id s :: L) := SH.close_ (Q := fun idt => [pt id (.cells (bldC id s idt)), ownT T idt (bo s)]) (i := idt) hs
theorem SH.usedA {st : Store} {L : List Asn} {TB T id : Nat} {s : Str} (hs : SH st (bldU T id s :: L)) : SH st (bldA TB T id s :: L) := by
  obtain ⟨a, b, h1, h2, h3, h4⟩ := hs
  exact ⟨a, b, .inr h1, h2, h3, h4⟩
theorem SH.bldO {st : Store} {L : List Asn} {TB T id : Nat} {s : Str} (hs : SH st (bldA TB T id s :: L)) : (s = [] ∧ SH st (pt id (.cells [.nilB id TB 2, .nils]) :: L)) ∨ SH st (bldU T id s :: L) := by
  obtain ⟨a, b, h1, h2, h3, h4⟩ := hs
  rcases h1 with ⟨rfl, h1⟩ | h1
  · exact .inl ⟨rfl, a, b, h1, h2, h3, h4⟩
  · exact .inr ⟨a, b, h1, h2, h3, h4⟩

theorem SH.appT {st : Store} {L : List Asn} {E : Glob} {tm : Fr} {x y : AX} {j T id bytes : Nat} {o : Sl Int} {ys : List Int} (hs : SH st L) (hj : L[j]? = some (ownT T id o)) (hx : tm.x x = ownV 1 (AV.int .u8) o id)
    (hy : appElems 1 st (tm.x y) = some (ys.map (AV.int .u8))) (hb : ((ls o).length + ys.length) * bytes ≤ 140737488355328) :
    ∃ id' st', evalAI E tm st (.appT T 1 bytes x y) = some (ownV 1 (AV.int .u8) (sapp o ys) id', st') ∧ SH st' (L.set j (ownT T id' (sapp o ys))) := by
  cases o with
  | none =>
    cases ys with
    | nil =>
      refine ⟨id, st, ?_, ?_⟩
      · simp only [evalAI, hy, hx]; rfl
      have : L.set j (ownT T id (sapp (none : Sl Int) [])) = L := set_get_self _ _ _ hj
      rw [this]; exact hs
    | cons z zs =>
      simp only [ls_none, List.length_nil, Nat.zero_add] at hb
      refine ⟨st.length, st ++ [.tail (z :: zs).length (some T)], ?_, ?_⟩
      · simp only [evalAI, hy, hx, ownV, List.map_cons]
        rw [if_pos (by simpa using hb)]
        simp [sapp, ls]
      · refine hs.upd hj fun a b ha hd he => ⟨fun i => if i = st.length then some (.tail (z :: zs).length (some T)) else none, fun _ => by simp [sapp, ls], fun i => ?_, fun i => ?_⟩
        · by_cases e : i = st.length
          · right
            have := he i
            rw [List.getElem?_eq_none (by omega)] at this
            exact (PH.or_none.1 this.symm).2
          · exact .inl (if_neg e)
        · by_cases e : i = st.length
          · rw [PH.or_l (a := fun i => if i = st.length then some (.tail (z :: zs).length (some T)) else none) (x := .tail (z :: zs).length (some T)) (if_pos e)]; subst e; simp
          · rw [PH.or_r (a := fun i => if i = st.length then some (.tail (z :: zs).length (some T)) else none) (if_neg e)]
            have h1 := he i
            rw [PH.or_r (ha i)] at h1
            rw [← h1]
            rcases Nat.lt_or_ge i st.length with h | h
            · rw [List.getElem?_append_left h]
            · rw [List.getElem?_eq_none (by simp; omega), List.getElem?_eq_none h]
  | some l =>
    have hg : st[id]? = some (.tail l.length (some T)) := hs.g j hj
    refine ⟨id, st.set id (.tail (l.length + ys.length) (some T)), ?_, ?_⟩
    · simp only [evalAI, hy, hx, ownV, hg, List.length_map]
      rw [if_pos ⟨trivial, trivial, trivial, hb⟩]
      simp [sapp, ls]
    · have := SH.set (o' := .tail (l.length + ys.length) (some T)) hs hj
      have e : ownT T id (sapp (some l) ys) = pt id (.tail (l.length + ys.length) (some T)) := by simp [sapp, ls, ownT]
      rw [e]; exact this

theorem box_two {E : Glob} {G : Gh} {st : Store} {w : World} {id : Nat} {v0 v1 : AV} (hs : StoreRel E G st w) (h : st[id]? = some (.cells [v0, v1])) :
    ∃ b arr e fz u0 u1, G.slots[id]? = some (.box b) ∧ w.heap[b]? = some (.cells arr e fz) ∧ 2 ≤ arr.size ∧ arr[0]? = some u0 ∧ arr[1]? = some u1 ∧ Rep G v0 u0 ∧ Rep G v1 u1 ∧ Unf fz arr.size ∧ ∀ o u, G.M b o ≠ some u := by
  have hidl : id < G.slots.length := by rw [hs.len]; exact lt_of_getElem? h
  have hsl : G.slots[id]? = some G.slots[id] := by simp [hidl]
  have hob := hs.obj id _ _ h hsl
  generalize G.slots[id] = s at hob hsl
  cases s <;> simp only [ObjRel] at hob
  rename_i b
  obtain ⟨⟨arr, e, fz, h1, h2, h3, h4⟩, h5⟩ := hob
  simp only [List.length_cons, List.length_nil, Nat.zero_add, Nat.reduceAdd] at h2 h3
  simp only [RepL] at h3
  obtain ⟨u0, us, e1, r0, u1, us2, rfl, r1, rfl⟩ := h3
  refine ⟨b, arr, e, fz, u0, u1, hsl, h1, h2, ?_, ?_, r0, r1, h4, h5⟩
  · have : (arr.toList.take 2)[0]? = some u0 := by rw [e1]; rfl
    simpa [List.getElem?_take] using this
  · have : (arr.toList.take 2)[1]? = some u1 := by rw [e1]; rfl
    simpa [List.getElem?_take] using this

theorem rep_ptr {G : Gh} {id off b : Nat} {u : Value} (h : Rep G (.ptr id off) u) (hs : G.slots[id]? = some (.box b)) : u = .pointer (some ⟨b, off, none⟩) := by
  simpa only [Rep, hs] using h
theorem repL_ptr {G : Gh} {id off b : Nat} {vs : List Value} (h : RepL G [.ptr id off] vs) (hs : G.slots[id]? = some (.box b)) : vs = [.pointer (some ⟨b, off, none⟩)] := by
  simp only [RepL] at h
  obtain ⟨u, us, rfl, h, rfl⟩ := h
  rw [rep_ptr h hs]
theorem setCell_row {w : World} {b o : Nat} {v : Value} {arr : Array Value} {e : TypeId} {fz : Nat × Nat} (h : w.heap[b]? = some (.cells arr e fz)) : w.setCell ⟨b, o, none⟩ v = w.setRow b (arr.setIfInBounds o v) := by
  have : ∀ (x y : Array Obj), x = y → ({ w with heap := x } : World) = { w with heap := y } := fun x y e => by rw [e]
  refine this _ _ ?_
  apply Array.ext_getElem?
  intro i
  simp only [Array.getElem?_modify]
  split
  · rename_i hi
    subst hi
    rw [h]; rfl
  · rfl

theorem bld_check {P : Program} {E : Glob} {f : FuncId} {TB T id : Nat} {s : Str} {st : Store} {K : AV → Store → Prop} {Ls : List Asn}
    (hfresh : ∀ (b : Nat) (w : World), w.cell? ⟨b, 0, none⟩ = some (.pointer none) → w.shape? b = some (TB, 2) → w.frozen? ⟨b, 0, none⟩ = false → Calls P f #[.pointer (some ⟨b, 0, none⟩)] w fun e w' => e = .returned (.tuple #[]) ∧ w' = w.setCell ⟨b, 0, none⟩ (.pointer (some ⟨b, 0, none⟩)))
    (hused : ∀ (b : Nat) (w : World), w.cell? ⟨b, 0, none⟩ = some (.pointer (some ⟨b, 0, none⟩)) → Calls P f #[.pointer (some ⟨b, 0, none⟩)] w fun e w' => e = .returned (.tuple #[]) ∧ w' = w)
    (hs : SH st (bldA TB T id s :: Ls)) (hK : ∀ st, SH st (bldU T id s :: Ls) → K (.tup []) st) : XCall P E f [.ptr id 0] st K := by
  intro G w vs hr hw
  rcases hs.bldO with ⟨hnil, h0⟩ | hs
  · subst hnil
    have ho := h0.g 0 rfl
    obtain ⟨b, arr, e, fz, u0, u1, h1, h2, h3, h4, h5, r0, r1, h6, h7⟩ := box_two hw ho
    rw [repL_ptr hr h1]
    simp only [Rep, h1] at r0
    obtain ⟨rfl, hsh⟩ := r0
    obtain ⟨arr2, fz2, k1, k2⟩ := hw.shp _ _ _ hsh
    rw [h2] at k1; cases k1
    refine (hfresh b w (by simp [World.cell?, h2, h4]) (by simp [World.shape?, h2, k2]) (by
      simp only [World.frozen?, h2]
      have := h6.un 0 (by omega)
      unfold Unfrozen at this
      simpa using this)).mono ?_
    rintro x w' ⟨rfl, rfl⟩
    rw [setCell_row h2]
    obtain ⟨q1, q2⟩ := set_box hw (cs' := [.ptr id 0, .nils]) (arr' := arr.setIfInBounds 0 (.pointer (some ⟨b, 0, none⟩))) h1 h2 h7 (by simp) (by simp [k2]) (by
      have e1 : (arr.setIfInBounds 0 (.pointer (some ⟨b, 0, none⟩))).toList.take 2 = [.pointer (some ⟨b, 0, none⟩), u1] := by
        apply List.ext_getElem?
        intro i
        rcases i with _ | _ | i
        · simp [List.getElem?_take, k2]
        · simp only [List.getElem?_take]
          rw [if_pos (by omega), Array.toList_setIfInBounds, List.getElem?_set_ne (by omega)]
          simpa using h5
        · simp only [List.getElem?_take]; rw [if_neg (by omega)]; rfl
      show RepL G _ (List.take 2 _)
      rw [e1]
      simp only [RepL]
      exact ⟨_, _, rfl, by simp only [Rep, h1], _, _, rfl, r1, rfl⟩) (by simpa using h6)
    refine ⟨_, .tup [], _, G, rfl, by simp only [Rep, RepL]; exact ⟨[], rfl, rfl⟩, q1, q2, hK _ (SH.usedC (idt := 0) ?_)⟩
    have q3 := h0.set (j := 0) rfl (.cells [.ptr id 0, .nils])
    obtain ⟨a, c, z1, z2, z3, z4⟩ := q3
    exact ⟨a, c, z1, ⟨fun _ => none, c, fun _ => rfl, z2, fun _ => .inl rfl, fun _ => (PH.or_r rfl).symm⟩, z3, z4⟩
  · obtain ⟨idt, hs2⟩ := hs.usedO
    obtain ⟨b, arr, e, fz, u0, u1, h1, h2, h3, h4, h5, r0, r1, h6, h7⟩ := box_two hw (hs2.g 0 rfl)
    rw [repL_ptr hr h1]
    have := rep_ptr r0 h1
    subst this
    refine (hused b w (by simp [World.cell?, h2, h4])).mono ?_
    rintro x w' ⟨rfl, rfl⟩
    exact ⟨_, .tup [], st, G, rfl, by simp only [Rep, RepL]; exact ⟨[], rfl, rfl⟩, hw, Ext.refl _ _, hK _ hs⟩

theorem kill_rel {E : Glob} {G : Gh} {st : Store} {w w' : World} {id b : Nat} {s : Slot} {arr : Array Value} {e : TypeId} {fz fz' : Nat × Nat} (h : StoreRel E G st w) (hid : G.slots[id]? = some s) (hb : s.blk = some b) (harr : w.heap[b]? = some (.cells arr e fz)) (hnew : w'.heap[b]? = some (.cells arr e fz'))
    (hw : ∀ k, k ≠ b → w'.heap[k]? = w.heap[k]?) (hz : w'.heap.size = w.heap.size) (hos : w'.os = w.os) (ht : w'.tape = w.tape) (hout : w'.output = w.output) :
    StoreRel E { slots := G.slots.set id .dead, M := G.M, sh := G.sh } (st.set id .dead) w' ∧ Ext G w { slots := G.slots.set id .dead, M := G.M, sh := G.sh } w' := by
  have hidl := lt_of_getElem? hid
  have hmemS : s ∈ G.slots := List.mem_of_getElem? hid
  have hcell : ∀ (q o : Nat), w'.cell? ⟨q, o, none⟩ = w.cell? ⟨q, o, none⟩ := fun q o => by
    by_cases hq : q = b
    · subst hq; simp [World.cell?, harr, hnew]
    · exact World.cell?_of_block (w := w) (w' := w') (a := ⟨q, o, none⟩) (hw q hq)
  have hg : GExt G { slots := G.slots.set id .dead, M := G.M, sh := G.sh } := by
    have key : ∀ (i : Nat) (t : Slot), G.slots[i]? = some t → (G.slots.set id .dead)[i]? = some t ∨ (G.slots.set id .dead)[i]? = some .dead := fun i t hi => by
      by_cases e' : id = i
      · subst e'; exact .inr (List.getElem?_set_self hidl)
      · exact .inl (by rw [List.getElem?_set_ne e']; exact hi)
    exact ⟨fun _ _ h => h, fun _ _ _ h => h, by simp, fun i b hi => key i _ hi, fun i b hi => key i _ hi, fun i hi => by rcases key i _ hi with h' | h' <;> exact h', fun i b lo hi n hi' => by
      rcases key i _ hi' with h' | h'
      · exact .inr ⟨b, lo, hi, n, h', Nat.le_refl _, fun _ => ⟨rfl, rfl, rfl⟩⟩
      · exact .inl h'⟩
  refine ⟨⟨by simp [h.len], ?_, ?_, fun q o u hu => by rw [hcell]; exact h.mem q o u hu, h.one, fun q e' n hx => ?_, h.glob.mono hg⟩, ⟨hg, hos, ht, hout, by rw [hz]; exact Nat.le_refl _, fun k hk hn => hw k fun e' => hn s hmemS (e' ▸ hb), fun _ _ _ hu => .inl hu, fun t htm q hq => ?_⟩⟩
  · intro i o t hi hti
    by_cases e' : id = i
    · subst e'
      rw [List.getElem?_set_self (by rw [← h.len]; exact hidl)] at hi; cases hi
      have hti' : (G.slots.set id .dead)[id]? = some t := hti
      rw [List.getElem?_set_self hidl] at hti'; cases hti'
      trivial
    · rw [List.getElem?_set_ne e'] at hi
      have hti' : (G.slots.set id .dead)[i]? = some t := hti
      rw [List.getElem?_set_ne e'] at hti'
      exact (h.obj i o t hi hti').keep hg (fun b' hb' => hw b' fun eb => h.apart i id t s b' (Ne.symm e') hti' hid hb' (eb ▸ hb)) fun _ _ _ _ hu => hu
  · intro i j t t' b' hij hti htj hbt
    have hti' : (G.slots.set id .dead)[i]? = some t := hti
    have htj' : (G.slots.set id .dead)[j]? = some t' := htj
    by_cases ei : id = i
    · subst ei; rw [List.getElem?_set_self hidl] at hti'; cases hti'; cases hbt
    · rw [List.getElem?_set_ne ei] at hti'
      by_cases ej : id = j
      · subst ej; rw [List.getElem?_set_self hidl] at htj'; cases htj'; intro hx; cases hx
      · rw [List.getElem?_set_ne ej] at htj'
        exact h.apart i j t t' b' hij hti' htj' hbt
  · obtain ⟨a2, f2, h1, h2⟩ := h.shp q e' n hx
    by_cases hq : q = b
    · subst hq; rw [harr] at h1; cases h1; exact ⟨_, _, hnew, h2⟩
    · exact ⟨a2, f2, by rw [hw q hq]; exact h1, h2⟩
  · have htm' : t ∈ G.slots.set id .dead := htm
    rcases List.mem_or_eq_of_mem_set htm' with h' | rfl
    · exact .inl ⟨t, h', hq⟩
    · cases hq

theorem SH.kil5 {st : Store} {L : List Asn} {id : Nat} {o : AObj} (hs : SH st (pt id o :: L)) : SH (st.set id .dead) L := starL_tail (P := pt id .dead) (hs.set (j := 0) rfl .dead)

theorem bld_string {P : Program} {E : Glob} {f : FuncId} {TB T id : Nat} {s : Str} {st : Store} {K : AV → Store → Prop} {Ls : List Asn}
    (hnil : ∀ (b : Nat) (w : World), w.cell? ⟨b, 1, none⟩ = some (.slice none 0 0) → Calls P f #[.pointer (some ⟨b, 0, none⟩)] w fun e w' => e = .returned (.string ⟨#[]⟩) ∧ w' = w.drew)
    (hrow : ∀ (b g cap cells : Nat) (l : List UInt8) (w : World), l ≠ [] → w.cell? ⟨b, 1, none⟩ = some (.slice (some ⟨g, 0, none⟩) l.length cap) → l.length ≤ cap → w.shape? g = some (T, cells) → l.length ≤ cells → l.length ≤ 9223372036854775807 → (∀ j x, l[j]? = some x → w.cell? ⟨g, j, none⟩ = some (.int .u8 x.toNat)) →
      Calls P f #[.pointer (some ⟨b, 0, none⟩)] w fun e w' => e = .returned (.string ⟨l.toArray⟩) ∧ w' = w.drew.freeze ⟨g, 0, none⟩ l.length)
    (hl : s.length ≤ 9223372036854775807) (hs : SH st (bldA TB T id s :: Ls)) (hK : ∀ st, SH st Ls → K (.str s) st) : XCall P E f [.ptr id 0] st K := by
  intro G w vs hr hw
  have nilcase : ∀ (v0 : AV), s = [] → SH st (pt id (.cells [v0, .nils]) :: Ls) → Calls P f vs.toArray w fun e w' => ∃ u r st' G', e = .returned u ∧ Rep G' r u ∧ StoreRel E G' st' w' ∧ Ext G w G' w' ∧ K r st' := by
    intro v0 hnl h0
    obtain ⟨b, arr, e, fz, u0, u1, h1, h2, h3, h4, h5, r0, r1, h6, h7⟩ := box_two hw (h0.g 0 rfl)
    rw [repL_ptr hr h1]
    simp only [Rep] at r1
    subst r1
    refine (hnil b w (by simp [World.cell?, h2, h5])).mono ?_
    rintro x w' ⟨rfl, rfl⟩
    exact ⟨_, .str s, st, G, rfl, by simp only [Rep]; exact ⟨_, by simp [hnl], rfl⟩, hw.drew _, (Ext.refl _ _).drew _, hK _ (starL_tail h0)⟩
  rcases hs.bldO with ⟨hnl, h0⟩ | hs
  · exact nilcase _ hnl h0
  · obtain ⟨idt, hs2⟩ := hs.usedO
    cases s with
    | nil =>
      refine nilcase (.ptr id 0) rfl ?_
      obtain ⟨a, b, z1, z2, z3, z4⟩ := hs2
      exact ⟨a, b, z1, starL_tail z2, z3, z4⟩
    | cons x0 s0 =>
      obtain ⟨b, arr, e, fz, u0, u1, h1, h2, h3, h4, h5, r0, r1, h6, h7⟩ := box_two hw (hs2.g 0 rfl)
      rw [repL_ptr hr h1]
      have ho : st[idt]? = some (.tail (ofBs (x0 :: s0)).length (some T)) := hs2.g 1 rfl
      generalize hse : x0 :: s0 = s at *
      have hne : s ≠ [] := by rw [← hse]; simp
      have r1' : Rep G (.sl 1 ((ofBs s).map (AV.int .u8)) (some idt)) u1 := by rw [← hse] at r1 ⊢; exact r1
      clear r1
      simp only [Rep] at r1'
      obtain ⟨g, o, c, hrs, hlc, htok, sp, hsp, rfl⟩ := r1'
      obtain rfl : sp = none := by
        rcases hsp with h | h
        · exact h
        · cases h.2
      have hidl : idt < G.slots.length := by rw [hw.len]; exact lt_of_getElem? ho
      have hsl : G.slots[idt]? = some G.slots[idt] := by simp [hidl]
      have hob := hw.obj idt _ _ ho hsl
      simp only [TokOk, hsl] at htok
      generalize G.slots[idt] = sl at hob hsl htok
      cases sl <;> simp only [ObjRel] at hob
      rename_i b' lo hi m
      obtain ⟨rfl, hlohi, ⟨arr', te, fz', p1, p2, p3, p5⟩, p4⟩ := hob
      have hte : te = T := p5 T rfl
      subst hte
      simp only [List.length_map] at htok hlc h5
      obtain ⟨_, htok⟩ := htok
      obtain ⟨rfl, rfl, rfl, rfl⟩ := htok trivial
      have hlen : (ofBs s).length = s.length := by simp [ofBs]
      obtain ⟨us, k1, k2, k3, k4⟩ := repS_cells hrs
      have hcells : ∀ j x, s[j]? = some x → w.cell? ⟨b', j, none⟩ = some (.int .u8 x.toNat) := by
        intro j x hx
        have hxs : ((ofBs s).map (AV.int .u8))[j]? = some (.int .u8 x.toNat) := by simp [ofBs, hx]
        obtain ⟨u, hu⟩ : ∃ u, us[j]? = some u := by
          have := lt_of_getElem? hxs
          exact ⟨us[j], by simp [k1, this]⟩
        obtain ⟨q1, q2, q3⟩ := k4 j _ _ hxs hu
        simp only [Rep] at q1
        subst q1
        have := hw.mem _ _ _ (k3 _ _ (q3 0 (.int .u8 x.toNat) rfl))
        simpa using this
      rw [hlen] at h5 hlc
      refine (hrow b b' c arr'.size s w hne (by simp [World.cell?, h2, h5]) hlc (by simp [World.shape?, p1]) (by omega) hl hcells).mono ?_
      rintro x w' ⟨rfl, rfl⟩
      obtain ⟨lo', hi'⟩ := fz'
      obtain ⟨q1, q2⟩ := kill_rel (w' := w.drew.freeze ⟨b', 0, none⟩ s.length) (fz' := if (lo' == hi') = true then (0, 0 + s.length) else (min lo' 0, max hi' (0 + s.length))) hw hsl rfl p1
        (by
          have hn : s.length ≠ 0 := by simpa using hne
          simp only [World.freeze, hn, if_false, World.drew, Array.getElem?_modify, if_true, p1, Option.map_some])
        (fun k hk => by
          have hn : s.length ≠ 0 := by simpa using hne
          simp only [World.freeze, hn, if_false, World.drew, Array.getElem?_modify]
          rw [if_neg (fun e => hk e.symm)])
        (by
          have hn : s.length ≠ 0 := by simpa using hne
          simp only [World.freeze, hn, if_false, Array.size_modify]; rfl)
        (by simp only [World.freeze]; split <;> rfl) (by simp only [World.freeze]; split <;> rfl) (by simp only [World.freeze]; split <;> rfl)
      refine ⟨_, .str s, _, _, rfl, by simp only [Rep]; exact ⟨_, by simp, rfl⟩, q1, q2, hK _ ?_⟩
      have hs3 : SH st (ownT te idt (bo s) :: Ls) := starL_tail hs2
      rw [← hse] at hs3
      exact SH.kil5 hs3
def bldF (T id : Nat) (s : Str) : Asn := fun h => (s = [] ∧ ∃ v0, pt id (.cells [v0, .nils]) h) ∨ (s ≠ [] ∧ ∃ ids v0, starL [pt id (.cells [v0, .row ids 1 0 s.length]), pt ids (.sldo s T)] h)
theorem seal_rel {E : Glob} {G : Gh} {st : Store} {w w' : World} {id b : Nat} {s : Slot} {arr : Array Value} {e : TypeId} {fz fz' : Nat × Nat} {l : List UInt8} (h : StoreRel E G st w) (hid : G.slots[id]? = some s) (hb : s.blk = some b) (harr : w.heap[b]? = some (.cells arr e fz)) (hnew : w'.heap[b]? = some (.cells arr e fz'))
    (hw : ∀ k, k ≠ b → w'.heap[k]? = w.heap[k]?) (hz : w'.heap.size = w.heap.size) (hos : w'.os = w.os) (ht : w'.tape = w.tape) (hout : w'.output = w.output) (hl : l.length ≤ arr.size) (hc : ∀ (j : Nat) (x : UInt8), l[j]? = some x → arr[j]? = some (Value.int .u8 (x.toNat : Int))) :
    StoreRel E { slots := G.slots.set id .dead ++ [.box b], M := G.M, sh := fun q => if q = b then some (e, arr.size) else G.sh q } (st.set id .dead ++ [.sldo l e]) w' ∧ Ext G w { slots := G.slots.set id .dead ++ [.box b], M := G.M, sh := fun q => if q = b then some (e, arr.size) else G.sh q } w' := by
  obtain ⟨k1, k2⟩ := kill_rel h hid hb harr hnew hw hz hos ht hout
  have hidl := lt_of_getElem? hid
  have hsh : ∀ q v, G.sh q = some v → (if q = b then some (e, arr.size) else G.sh q) = some v := fun q v hv => by
    by_cases hq : q = b
    · subst hq
      obtain ⟨e', n'⟩ := v
      obtain ⟨a2, f2, h1, h2⟩ := h.shp q e' n' hv
      rw [harr] at h1
      cases h1
      rw [if_pos rfl, h2]
    · rw [if_neg hq]; exact hv
  have hap : ∀ (i : Nat) (t : Slot), (G.slots.set id .dead)[i]? = some t → t.blk ≠ some b := fun i t hi e' => by
    by_cases ei : id = i
    · subst ei; rw [List.getElem?_set_self hidl] at hi; cases hi; cases e'
    · rw [List.getElem?_set_ne ei] at hi
      exact h.apart i id t s b (Ne.symm ei) hi hid e' hb
  have gl : ∀ (i : Nat) (t : Slot), (G.slots.set id .dead)[i]? = some t → (G.slots.set id .dead ++ [Slot.box b])[i]? = some t := fun i t hi => by
    rw [List.getElem?_append_left (lt_of_getElem? hi)]; exact hi
  have hg1 : GExt { slots := G.slots.set id .dead, M := G.M, sh := G.sh } { slots := G.slots.set id .dead ++ [.box b], M := G.M, sh := fun q => if q = b then some (e, arr.size) else G.sh q } :=
    ⟨hsh, fun _ _ _ h => h, by simp, fun i b' hi => .inl (gl i _ hi), fun i b' hi => .inl (gl i _ hi), fun i hi => gl i _ hi, fun i b' lo hi n hi' => .inr ⟨b', lo, hi, n, gl i _ hi', Nat.le_refl _, fun _ => ⟨rfl, rfl, rfl⟩⟩⟩
  have hlen : (G.slots.set id .dead).length = (st.set id .dead).length := by simp [h.len]
  refine ⟨⟨by simp [h.len], ?_, ?_, k1.mem, k1.one, ?_, k1.glob.mono hg1⟩, ⟨k2.g.trans hg1, hos, ht, hout, by rw [hz]; exact Nat.le_refl _, k2.block, k2.newM, ?_⟩⟩
  · intro i o t hi hti
    have hti' : (G.slots.set id .dead ++ [Slot.box b])[i]? = some t := hti
    by_cases hil : i < (st.set id .dead).length
    · rw [List.getElem?_append_left hil] at hi
      rw [List.getElem?_append_left (by rw [hlen]; exact hil)] at hti'
      exact (k1.obj i o t hi hti').keep hg1 (fun _ _ => rfl) fun _ _ _ _ hu => hu
    · rw [List.getElem?_append_right (by omega)] at hi
      rw [List.getElem?_append_right (by rw [hlen]; omega), hlen] at hti'
      have hi0 := lt_of_getElem? hi
      simp only [List.length_singleton] at hi0
      have e0 : i - (st.set id .dead).length = 0 := by omega
      rw [e0] at hi hti'
      simp only [List.getElem?_cons_zero, Option.some.injEq] at hi hti'
      subst hi; subst hti'
      exact ⟨arr, fz', hnew, hl, hc⟩
  · intro i j t t' b' hij hti htj hbt
    have hti' : (G.slots.set id .dead ++ [Slot.box b])[i]? = some t := hti
    have htj' : (G.slots.set id .dead ++ [Slot.box b])[j]? = some t' := htj
    have last : ∀ (i : Nat) (t : Slot), ¬ i < (G.slots.set id .dead).length → (G.slots.set id .dead ++ [Slot.box b])[i]? = some t → i = (G.slots.set id .dead).length ∧ t = .box b := fun i t hil hi => by
      rw [List.getElem?_append_right (by omega)] at hi
      have hi0 := lt_of_getElem? hi
      simp only [List.length_singleton] at hi0
      have e0 : i - (G.slots.set id .dead).length = 0 := by omega
      rw [e0] at hi
      simp only [List.getElem?_cons_zero, Option.some.injEq] at hi
      exact ⟨by omega, hi.symm⟩
    by_cases hil : i < (G.slots.set id .dead).length
    · rw [List.getElem?_append_left hil] at hti'
      by_cases hjl : j < (G.slots.set id .dead).length
      · rw [List.getElem?_append_left hjl] at htj'
        exact k1.apart i j t t' b' hij hti' htj' hbt
      · obtain ⟨_, rfl⟩ := last j t' hjl htj'
        intro hx
        cases hx
        exact hap i t hti' hbt
    · obtain ⟨hi1, rfl⟩ := last i t hil hti'
      cases hbt
      by_cases hjl : j < (G.slots.set id .dead).length
      · rw [List.getElem?_append_left hjl] at htj'
        exact hap j t' htj'
      · obtain ⟨hj1, _⟩ := last j t' hjl htj'
        omega
  · intro q e' n hx
    have hx' : (if q = b then some (e, arr.size) else G.sh q) = some (e', n) := hx
    by_cases hq : q = b
    · subst hq
      rw [if_pos rfl] at hx'
      cases hx'
      exact ⟨arr, fz', hnew, rfl⟩
    · rw [if_neg hq] at hx'
      exact k1.shp q e' n hx'
  · intro t htm q hq
    have htm' : t ∈ G.slots.set id .dead ++ [Slot.box b] := htm
    rcases List.mem_append.1 htm' with h' | h'
    · exact k2.newS t h' q hq
    · simp only [List.mem_singleton] at h'
      subst h'
      cases hq
      exact .inl ⟨s, List.mem_of_getElem? hid, hb⟩
theorem told_rel {E : Glob} {G : Gh} {st : Store} {w : World} {id b : Nat} {cs cs' : List AV} (h : StoreRel E G st w) (ho : st[id]? = some (.cells cs)) (hid : G.slots[id]? = some (.box b)) (hl : cs'.length = cs.length)
    (hr : ∀ (arr : Array Value) (e : TypeId) (fz : Nat × Nat), w.heap[b]? = some (.cells arr e fz) → RepL G cs' (arr.toList.take cs'.length)) : StoreRel E G (st.set id (.cells cs')) w := by
  have hidl := lt_of_getElem? ho
  refine ⟨by simp [h.len], fun i o t hi hti => ?_, h.apart, h.mem, h.one, h.shp, h.glob⟩
  by_cases e' : id = i
  · subst e'
    rw [List.getElem?_set_self hidl] at hi
    cases hi
    rw [hid] at hti
    cases hti
    have := h.obj id _ _ ho hid
    simp only [ObjRel] at this ⊢
    obtain ⟨⟨arr, e, fz, h1, h2, h3, h4⟩, h5⟩ := this
    exact ⟨⟨arr, e, fz, h1, by rw [hl]; exact h2, hr arr e fz h1, h4⟩, h5⟩
  · rw [List.getElem?_set_ne e'] at hi
    exact h.obj i o t hi hti
theorem bld_stringF {P : Program} {E : Glob} {f : FuncId} {TB T id : Nat} {s : Str} {st : Store} {K : AV → Store → Prop} {Ls : List Asn}
    (hnil : ∀ (b : Nat) (w : World), w.cell? ⟨b, 1, none⟩ = some (.slice none 0 0) → Calls P f #[.pointer (some ⟨b, 0, none⟩)] w fun e w' => e = .returned (.string ⟨#[]⟩) ∧ w' = w.drew)
    (hrow : ∀ (b g cap cells : Nat) (l : List UInt8) (w : World), l ≠ [] → w.cell? ⟨b, 1, none⟩ = some (.slice (some ⟨g, 0, none⟩) l.length cap) → l.length ≤ cap → w.shape? g = some (T, cells) → l.length ≤ cells → l.length ≤ 9223372036854775807 → (∀ j x, l[j]? = some x → w.cell? ⟨g, j, none⟩ = some (.int .u8 x.toNat)) →
      Calls P f #[.pointer (some ⟨b, 0, none⟩)] w fun e w' => e = .returned (.string ⟨l.toArray⟩) ∧ w' = w.drew.freeze ⟨g, 0, none⟩ l.length)
    (hl : s.length ≤ 9223372036854775807) (hs : SH st (bldA TB T id s :: Ls)) (hK : ∀ st, SH st (bldF T id s :: Ls) → K (.str s) st) : XCall P E f [.ptr id 0] st K := by
  intro G w vs hr hw
  have nilcase : ∀ (v0 : AV), s = [] → SH st (pt id (.cells [v0, .nils]) :: Ls) → Calls P f vs.toArray w fun e w' => ∃ u r st' G', e = .returned u ∧ Rep G' r u ∧ StoreRel E G' st' w' ∧ Ext G w G' w' ∧ K r st' := by
    intro v0 hnl h0
    obtain ⟨b, arr, e, fz, u0, u1, h1, h2, h3, h4, h5, r0, r1, h6, h7⟩ := box_two hw (h0.g 0 rfl)
    rw [repL_ptr hr h1]
    simp only [Rep] at r1
    subst r1
    refine (hnil b w (by simp [World.cell?, h2, h5])).mono ?_
    rintro x w' ⟨rfl, rfl⟩
    obtain ⟨a, b2, z1, z2, z3, z4⟩ := h0
    exact ⟨_, .str s, st, G, rfl, by simp only [Rep]; exact ⟨_, by simp [hnl], rfl⟩, hw.drew _, (Ext.refl _ _).drew _, hK _ ⟨a, b2, .inl ⟨hnl, v0, z1⟩, z2, z3, z4⟩⟩
  rcases hs.bldO with ⟨hnl, h0⟩ | hs
  · exact nilcase _ hnl h0
  · obtain ⟨idt, hs2⟩ := hs.usedO
    cases s with
    | nil =>
      refine nilcase (.ptr id 0) rfl ?_
      obtain ⟨a, b, z1, z2, z3, z4⟩ := hs2
      exact ⟨a, b, z1, starL_tail z2, z3, z4⟩
    | cons x0 s0 =>
      obtain ⟨b, arr, e, fz, u0, u1, h1, h2, h3, h4, h5, r0, r1, h6, h7⟩ := box_two hw (hs2.g 0 rfl)
      rw [repL_ptr hr h1]
      have ho : st[idt]? = some (.tail (ofBs (x0 :: s0)).length (some T)) := hs2.g 1 rfl
      have hob0 : st[id]? = some (.cells (bldC id (x0 :: s0) idt)) := hs2.g 0 rfl
      generalize hse : x0 :: s0 = s at *
      have hne : s ≠ [] := by rw [← hse]; simp
      have r1' : Rep G (.sl 1 ((ofBs s).map (AV.int .u8)) (some idt)) u1 := by rw [← hse] at r1 ⊢; exact r1
      clear r1
      simp only [Rep] at r1'
      obtain ⟨g, o, c, hrs, hlc, htok, sp, hsp, rfl⟩ := r1'
      obtain rfl : sp = none := by
        rcases hsp with h | h
        · exact h
        · cases h.2
      have hidl : idt < G.slots.length := by rw [hw.len]; exact lt_of_getElem? ho
      have hsl : G.slots[idt]? = some G.slots[idt] := by simp [hidl]
      have hob := hw.obj idt _ _ ho hsl
      simp only [TokOk, hsl] at htok
      generalize G.slots[idt] = sl at hob hsl htok
      cases sl <;> simp only [ObjRel] at hob
      rename_i b' lo hi m
      obtain ⟨rfl, hlohi, ⟨arr', te, fz', p1, p2, p3, p5⟩, p4⟩ := hob
      have hte : te = T := p5 T rfl
      subst hte
      simp only [List.length_map] at htok hlc h5
      obtain ⟨_, htok⟩ := htok
      obtain ⟨rfl, rfl, rfl, rfl⟩ := htok trivial
      have hlen : (ofBs s).length = s.length := by simp [ofBs]
      obtain ⟨us, k1, k2, k3, k4⟩ := repS_cells hrs
      have hcells : ∀ j x, s[j]? = some x → w.cell? ⟨b', j, none⟩ = some (.int .u8 x.toNat) := by
        intro j x hx
        have hxs : ((ofBs s).map (AV.int .u8))[j]? = some (.int .u8 x.toNat) := by simp [ofBs, hx]
        obtain ⟨u, hu⟩ : ∃ u, us[j]? = some u := by
          have := lt_of_getElem? hxs
          exact ⟨us[j], by simp [k1, this]⟩
        obtain ⟨q1, q2, q3⟩ := k4 j _ _ hxs hu
        simp only [Rep] at q1
        subst q1
        have := hw.mem _ _ _ (k3 _ _ (q3 0 (.int .u8 x.toNat) rfl))
        simpa using this
      rw [hlen] at h5 hlc
      refine (hrow b b' c arr'.size s w hne (by simp [World.cell?, h2, h5]) hlc (by simp [World.shape?, p1]) (by omega) hl hcells).mono ?_
      rintro x w' ⟨rfl, rfl⟩
      obtain ⟨lo', hi'⟩ := fz'
      have hn : s.length ≠ 0 := by simpa using hne
      have hwk : ∀ k, k ≠ b' → (w.drew.freeze ⟨b', 0, none⟩ s.length).heap[k]? = w.heap[k]? := fun k hk => by
        simp only [World.freeze, hn, if_false, World.drew, Array.getElem?_modify]
        rw [if_neg (fun e => hk e.symm)]
      obtain ⟨q1, q2⟩ := seal_rel (w' := w.drew.freeze ⟨b', 0, none⟩ s.length) (l := s) (fz' := if (lo' == hi') = true then (0, 0 + s.length) else (min lo' 0, max hi' (0 + s.length))) hw hsl rfl p1
        (by simp only [World.freeze, hn, if_false, World.drew, Array.getElem?_modify, if_true, p1, Option.map_some]) hwk
        (by simp only [World.freeze, hn, if_false, Array.size_modify]; rfl)
        (by simp only [World.freeze]; split <;> rfl) (by simp only [World.freeze]; split <;> rfl) (by simp only [World.freeze]; split <;> rfl) (by omega)
        (fun j x hx => by have := hcells j x hx; simpa [World.cell?, p1] using this)
      have hne2 : idt ≠ id := fun e => by rw [e, hob0] at ho; cases ho
      have hbne : b ≠ b' := fun e => by
        subst e
        exact hw.apart id idt _ _ b (Ne.symm hne2) h1 hsl rfl rfl
      have ho2 : (st.set idt .dead ++ [AObj.sldo s te])[id]? = some (.cells (bldC id s idt)) := by
        rw [List.getElem?_append_left (by rw [List.length_set]; exact lt_of_getElem? hob0), List.getElem?_set_ne hne2]; exact hob0
      have hsl2 : (G.slots.set idt .dead ++ [Slot.box b'])[id]? = some (.box b) := by
        rw [List.getElem?_append_left (by rw [List.length_set]; exact lt_of_getElem? h1), List.getElem?_set_ne hne2]; exact h1
      have hslN : (G.slots.set idt .dead ++ [Slot.box b'])[st.length]? = some (.box b') := by
        rw [List.getElem?_append_right (by rw [List.length_set, hw.len]; omega), List.length_set, hw.len]; simp
      have q3 := told_rel (cs' := [.ptr id 0, .row st.length 1 0 s.length]) q1 ho2 hsl2 rfl (fun arr2 e2 fz2 ha => by
        rw [hwk b hbne, h2] at ha
        cases ha
        have e5 : arr.toList.take 2 = [u0, .slice (some ⟨b', 0, none⟩) s.length c] := by
          apply List.ext_getElem?
          intro j
          rw [List.getElem?_take]
          match j with
          | 0 => simpa using h4
          | 1 => simpa using h5
          | j + 2 => rw [if_neg (by omega)]; rfl
        show RepL _ _ (arr.toList.take 2)
        rw [e5]
        have a0 : Rep { slots := G.slots.set idt .dead ++ [.box b'], M := G.M, sh := fun q => if q = b' then some (te, arr'.size) else G.sh q } (.ptr id 0) u0 := by
          simp only [Rep, hsl2]
          exact rep_ptr r0 h1
        have a1 : Rep { slots := G.slots.set idt .dead ++ [.box b'], M := G.M, sh := fun q => if q = b' then some (te, arr'.size) else G.sh q } (.row st.length 1 0 s.length) (.slice (some ⟨b', 0, none⟩) s.length c) := by
          simp only [Rep, hslN]
          exact ⟨c, te, arr'.size, hlc, by simp, by omega, by simp⟩
        simp only [RepL]
        exact ⟨_, _, rfl, a0, _, _, rfl, a1, rfl⟩)
      refine ⟨_, .str s, _, _, rfl, by simp only [Rep]; exact ⟨_, by simp, rfl⟩, q3, q2, hK _ ?_⟩
      have hs3 : SH st (ownT te idt (bo s) :: pt id (.cells (bldC id s idt)) :: Ls) := hs2.p 2 [1, 0] rfl
      rw [← hse] at hs3
      have hs4 := SH.kil5 hs3
      have hs5 := (SH.set (o' := .cells [.ptr id 0, .row st.length 1 0 (x0 :: s0).length]) hs4 (j := 0) rfl).push (.sldo (x0 :: s0) te)
      rw [List.length_set, List.length_set] at hs5
      have hs6 := hs5.p 2 [1, 0] rfl
      rw [hse] at hs6
      obtain ⟨a, b3, z1, z2, z3, z4⟩ := (starL_app (A := [_, _]) (B := Ls)).1 hs6
      rw [← List.set_append_left _ _ (by rw [List.length_set]; exact lt_of_getElem? hob0)] at z4
      exact ⟨a, b3, .inr ⟨hne, _, _, z1⟩, z2, z3, z4⟩
theorem reseal_rel {E : Glob} {G : Gh} {st : Store} {w w' : World} {id b : Nat} {arr : Array Value} {e t : TypeId} {fz fz' : Nat × Nat} {l : List UInt8} (h : StoreRel E G st w) (ho : st[id]? = some (.sldo l t)) (hid : G.slots[id]? = some (.box b)) (harr : w.heap[b]? = some (.cells arr e fz)) (hnew : w'.heap[b]? = some (.cells arr e fz'))
    (hw : ∀ k, k ≠ b → w'.heap[k]? = w.heap[k]?) (hz : w'.heap.size = w.heap.size) (hos : w'.os = w.os) (ht : w'.tape = w.tape) (hout : w'.output = w.output) : StoreRel E G st w' ∧ Ext G w G w' := by
  have hcell : ∀ (q o : Nat), w'.cell? ⟨q, o, none⟩ = w.cell? ⟨q, o, none⟩ := fun q o => by
    by_cases hq : q = b
    · subst hq; simp [World.cell?, harr, hnew]
    · exact World.cell?_of_block (w := w) (w' := w') (a := ⟨q, o, none⟩) (hw q hq)
  refine ⟨⟨h.len, ?_, h.apart, fun q o u hu => by rw [hcell]; exact h.mem q o u hu, h.one, fun q e' n hx => ?_, h.glob⟩, ⟨GExt.refl _, hos, ht, hout, by rw [hz]; exact Nat.le_refl _, fun k hk hn => hw k fun e' => hn _ (List.mem_of_getElem? hid) (e' ▸ rfl), fun _ _ _ hu => .inl hu, fun t htm q hq => .inl ⟨t, htm, hq⟩⟩⟩
  · intro i o t hi hti
    by_cases e' : id = i
    · subst e'
      rw [ho] at hi; cases hi
      rw [hid] at hti; cases hti
      have := h.obj id _ _ ho hid
      simp only [ObjRel] at this ⊢
      obtain ⟨a2, f2, h1, h2⟩ := this
      rw [harr] at h1
      cases h1
      exact ⟨_, _, hnew, h2⟩
    · exact (h.obj i o t hi hti).keep (GExt.refl _) (fun b' hb' => hw b' fun eb => h.apart i id t _ b' (Ne.symm e') hti hid hb' (eb ▸ rfl)) fun _ _ _ _ hu => hu
  · obtain ⟨a2, f2, h1, h2⟩ := h.shp q e' n hx
    by_cases hq : q = b
    · subst hq; rw [harr] at h1; cases h1; exact ⟨_, _, hnew, h2⟩
    · exact ⟨a2, f2, by rw [hw q hq]; exact h1, h2⟩
theorem bld_string2 {P : Program} {E : Glob} {f : FuncId} {T id : Nat} {s : Str} {st : Store} {K : AV → Store → Prop} {Ls : List Asn}
    (hnil : ∀ (b : Nat) (w : World), w.cell? ⟨b, 1, none⟩ = some (.slice none 0 0) → Calls P f #[.pointer (some ⟨b, 0, none⟩)] w fun e w' => e = .returned (.string ⟨#[]⟩) ∧ w' = w.drew)
    (hrow : ∀ (b g cap cells : Nat) (l : List UInt8) (w : World), l ≠ [] → w.cell? ⟨b, 1, none⟩ = some (.slice (some ⟨g, 0, none⟩) l.length cap) → l.length ≤ cap → w.shape? g = some (T, cells) → l.length ≤ cells → l.length ≤ 9223372036854775807 → (∀ j x, l[j]? = some x → w.cell? ⟨g, j, none⟩ = some (.int .u8 x.toNat)) →
      Calls P f #[.pointer (some ⟨b, 0, none⟩)] w fun e w' => e = .returned (.string ⟨l.toArray⟩) ∧ w' = w.drew.freeze ⟨g, 0, none⟩ l.length)
    (hl : s.length ≤ 9223372036854775807) (hs : SH st (bldF T id s :: Ls)) (hK : ∀ st, SH st (bldF T id s :: Ls) → K (.str s) st) : XCall P E f [.ptr id 0] st K := by
  intro G w vs hr hw
  have hs0 := hs
  obtain ⟨a, b2, z1, z2, z3, z4⟩ := hs
  rcases z1 with ⟨hnl, v0, z1⟩ | ⟨hne, ids, v0, z1⟩
  · have h0 : SH st (pt id (.cells [v0, .nils]) :: Ls) := ⟨a, b2, z1, z2, z3, z4⟩
    obtain ⟨b, arr, e, fz, u0, u1, h1, h2, h3, h4, h5, r0, r1, h6, h7⟩ := box_two hw (h0.g 0 rfl)
    rw [repL_ptr hr h1]
    simp only [Rep] at r1
    subst r1
    refine (hnil b w (by simp [World.cell?, h2, h5])).mono ?_
    rintro x w' ⟨rfl, rfl⟩
    exact ⟨_, .str s, st, G, rfl, by simp only [Rep]; exact ⟨_, by simp [hnl], rfl⟩, hw.drew _, (Ext.refl _ _).drew _, hK _ hs0⟩
  · have h0 : SH st ([pt id (.cells [v0, .row ids 1 0 s.length]), pt ids (.sldo s T)] ++ Ls) := starL_app.2 ⟨a, b2, z1, z2, z3, z4⟩
    obtain ⟨b, arr, e, fz, u0, u1, h1, h2, h3, h4, h5, r0, r1, h6, h7⟩ := box_two hw (h0.g 0 rfl)
    rw [repL_ptr hr h1]
    have ho : st[ids]? = some (.sldo s T) := h0.g 1 rfl
    have hidl : ids < G.slots.length := by rw [hw.len]; exact lt_of_getElem? ho
    have hsl : G.slots[ids]? = some G.slots[ids] := by simp [hidl]
    have hob := hw.obj ids _ _ ho hsl
    generalize G.slots[ids] = sl at hob hsl
    cases sl <;> simp only [ObjRel] at hob
    rename_i b'
    obtain ⟨arr', fz', p1, p2, p3⟩ := hob
    simp only [Rep, hsl] at r1
    obtain ⟨c, e2, n, hlc, hsh, hn, rfl⟩ := r1
    have hcells : ∀ j x, s[j]? = some x → w.cell? ⟨b', j, none⟩ = some (.int .u8 x.toNat) := by
      intro j x hx
      have := p3 j x hx
      simpa [World.cell?, p1] using this
    refine (hrow b b' c arr'.size s w hne (by simpa [World.cell?, h2] using h5) hlc (by simp [World.shape?, p1]) p2 hl hcells).mono ?_
    rintro x w' ⟨rfl, rfl⟩
    obtain ⟨lo', hi'⟩ := fz'
    have hn : s.length ≠ 0 := by simpa using hne
    obtain ⟨q1, q2⟩ := reseal_rel (w' := w.drew.freeze ⟨b', 0, none⟩ s.length) (fz' := if (lo' == hi') = true then (0, 0 + s.length) else (min lo' 0, max hi' (0 + s.length))) hw ho hsl p1
      (by simp only [World.freeze, hn, if_false, World.drew, Array.getElem?_modify, if_true, p1, Option.map_some])
      (fun k hk => by
        simp only [World.freeze, hn, if_false, World.drew, Array.getElem?_modify]
        rw [if_neg (fun e => hk e.symm)])
      (by simp only [World.freeze, hn, if_false, Array.size_modify]; rfl)
      (by simp only [World.freeze]; split <;> rfl) (by simp only [World.freeze]; split <;> rfl) (by simp only [World.freeze]; split <;> rfl)
    exact ⟨_, .str s, st, G, rfl, by simp only [Rep]; exact ⟨_, by simp, rfl⟩, q1, q2, hK _ hs0⟩
instance : DtV .nilif := ⟨⟨rfl, rfl⟩⟩
def vNif (_ : Unit) : AV := .nilif
instance (u : Unit) : DtV (vNif u) := ⟨⟨rfl, rfl⟩⟩
instance : DtF vNif := ⟨fun _ => ⟨rfl, rfl⟩⟩
theorem ownV_cells {α : Type} {es : Nat} {f : α → AV} {o : Sl α} {id : Nat} : (ownV es f o id).cells = [ownV es f o id] := by cases o <;> rfl
theorem ownV_one {α : Type} {es : Nat} {f : α → AV} {o : Sl α} {id : Nat} : [ownV es f o id].all AV.one = true := by cases o <;> rfl
section
variable {X : Cx} {k : List KJ} {tm : Fr} {fr : List (Nat × AV)} {st : Store} {l : List AOp} {x y : AX} {d : Nat} {L : List Asn}
theorem apT {T bytes id : Nat} {s t : Str} (hs : SH st L) (j : Nat) (hj : L[j]? = some (ownT T id (bo s))) (hx : (updL tm fr).x x = ownV 1 (AV.int .u8) (bo s) id) (hy : appElems 1 st ((updL tm fr).x y) = some ((ofBs t).map (AV.int .u8))) (hb : (s.length + t.length) * bytes ≤ 140737488355328)
    {L' : Nat → List Asn} (hL : ∀ id, setL L j (ownT T id (bo (s ++ t))) = some (L' id)) (hk : ∀ st id, SH st (L' id) → W X (.ops l :: k) (updL tm ((d, (ownV 1 (AV.int .u8) (bo (s ++ t)) id)) :: fr)) st) : W X (.ops (⟨.some d, .none, .plain (.appT T 1 bytes x y)⟩ :: l) :: k) (updL tm fr) st := by
  obtain ⟨id', st', h1, h2⟩ := hs.appT (E := X.E) (bytes := bytes) hj hx hy (by rw [ls_bo]; simpa [ofBs] using hb)
  rw [sapp_bo] at h1 h2
  exact W.po h1 (hk _ _ (setL_eq (hL id') ▸ h2))
theorem slT {T id idt idt' : Nat} {s t : Str} {a : AX} (hs : SH st (pt id (.cells (bldC id s idt)) :: ownT T idt' (bo t) :: L)) (hp : (updL tm fr).x a = .ptr id 1) (hx : (updL tm fr).x x = ownV 1 (AV.int .u8) (bo t) idt') (hk : ∀ st, SH st (bldU T id t :: L) → W X (.ops l :: k) (updL tm fr) st) :
    W X (.ops (⟨.none, .none, .plain (.store 1 a x)⟩ :: l) :: k) (updL tm fr) st :=
  sl hs 0 hp rfl (s := [ownV 1 (AV.int .u8) (bo s) idt]) (s' := [ownV 1 (AV.int .u8) (bo t) idt']) (cs' := bldC id t idt') ⟨[.ptr id 0], [], rfl, rfl, rfl⟩ rfl (by rw [hx, ownV_cells]) rfl ownV_one rfl fun st hs => hk st (SH.usedC hs)
end
def cM (P : Program) (E : Glob) (mu : List Nat) (N : Nat) (res : List RA) (K : AV → Store → Prop) : Cx := ⟨P, E, N, muL mu, res, isK K, endQ E res (isK K)⟩
theorem bM {P : Program} {E : Glob} {f : FuncId} {mu : List Nat} {n : Nat} {c : ACode} {res : List RA} {ds : List AV} {st : Store} {K : AV → Store → Prop} (hf : compF P (muL mu) f = some ⟨n, c, res⟩) (hl : Nat.ble ds.length n = true) (h : W (cM P E mu n res K) [.code c] (updL (fun _ => .tup []) (fi ds 0)) st) : XCall P E f ds st K :=
  xcallO_at hf (Nat.le_of_ble_eq_true hl) (by rw [fi_init]; exact h.xs)
theorem rM {P : Program} {E : Glob} {mu : List Nat} {N : Nat} {res : List RA} {k : List KJ} {tm : Fr} {st : Store} {v : AV} {vs : List AV} {K : AV → Store → Prop} [hd : DtV v] (h : resL E tm st res = some vs) (hk : K v st) (hr : pack vs = v) : W (cM P E mu N res K) (.code .ret :: k) tm st := rt h (isk (by rw [hr]; exact hd.h) hk)
def wsC (cc T : Nat) : ACode :=
  .s (.ops [q 4 (.mv (ki 0)), q 5 (.mv (.c .nilif))]) (.s (.ops [q 6 (.mv 0), qc 7 cc [6]]) (.s (.ops [q 8 (.mv 0), q 9 (.mv 0), q 10 (.nilck 9), q 11 (.faddr 1 10), q 12 (.load1 11), q 13 (.mv 1), q 14 (.appT T 1 1 12 13), q 15 (.nilck 8), q 16 (.faddr 1 15), q0 (.store 1 16 14)])
    (.s (.ops [q 17 (.mv 1), q 18 (.lenS 17), q 4 (.mv 18), q 5 (.mv (.c .nilif))]) .ret)))
def wbC (cc T : Nat) : ACode :=
  .s (.ops [q 4 (.mv (.c .nilif))]) (.s (.ops [q 5 (.mv 0), qc 6 cc [5]]) (.s (.ops [q 7 (.mv 0), q 8 (.mv 0), q 9 (.nilck 8), q 10 (.faddr 1 9), q 11 (.load1 10), q 12 (.mv 1), q 13 (.bslice 1 1 false [.int .u8 0] [(0, 1, 12)] false), q 14 (.appT T 1 1 11 13), q 15 (.nilck 7), q 16 (.faddr 1 15), q0 (.store 1 16 14)])
    (.s (.ops [q 4 (.mv (.c .nilif))]) .ret)))
section
variable {P : Program} {E : Glob} {f cc TB T id : Nat} {s : Str} {st : Store} {K : AV → Store → Prop} {Ls : List Asn}
attribute [local irreducible] W WD SH XS XLoop DFun XCall
theorem bld_ws (hf : compF P (muL [14]) f = some ⟨19, wsC cc T, [.tmp 4, .tmp 5]⟩) (hcc : ∀ (K : AV → Store → Prop) (st : Store), SH st (bldA TB T id s :: Ls) → (∀ st, SH st (bldU T id s :: Ls) → K (.tup []) st) → XCall P E cc [.ptr id 0] st K)
    {t : Str} (hl : (s.length + t.length) * 1 ≤ 140737488355328) (hs : SH st (bldA TB T id s :: Ls)) (hK : ∀ st, SH st (bldA TB T id (s ++ t) :: Ls) → K (.tup [.int .i64 t.length, .nilif]) st) : XCall P E f [.ptr id 0, .str t] st K := by
  refine bM hf rfl ?_
  refine rn 3 rfl ?_
  refine cl (ale rfl) (hcc _ _ hs fun st hs => ?_)
  obtain ⟨idt, hs⟩ := hs.usedO
  refine rn 2 rfl ?_
  refine W.o (e_nilck rfl (hs.g 0 rfl)) ?_
  refine W.o (e_faddr rfl (hs.g 0 rfl)) ?_
  refine W.o (l1 rfl (hs.g 0 rfl) rfl) ?_
  refine rn 1 rfl ?_
  refine apT (s := s) (t := t) hs 1 rfl rfl (ae_str rfl) hl (fun _ => rfl) fun st idt' hs => ?_
  refine W.o (e_nilck rfl (hs.g 0 rfl)) ?_
  refine W.o (e_faddr rfl (hs.g 0 rfl)) ?_
  refine slT hs rfl rfl fun st hs => ?_
  refine rn 4 rfl ?_
  exact rM (rlt (rlt rl0)) (hK _ hs.usedA) rfl
theorem bld_wb (hf : compF P (muL [14]) f = some ⟨17, wbC cc T, [.tmp 4]⟩) (hcc : ∀ (K : AV → Store → Prop) (st : Store), SH st (bldA TB T id s :: Ls) → (∀ st, SH st (bldU T id s :: Ls) → K (.tup []) st) → XCall P E cc [.ptr id 0] st K)
    {n : Int} (hn : 0 ≤ n ∧ n < 256) (hl : (s.length + 1) * 1 ≤ 140737488355328) (hs : SH st (bldA TB T id s :: Ls)) (hK : ∀ st, SH st (bldA TB T id (s ++ [UInt8.ofNat n.toNat]) :: Ls) → K .nilif st) : XCall P E f [.ptr id 0, .int .u8 n] st K := by
  have hb : ofBs [UInt8.ofNat n.toNat] = [n] := by
    simp only [ofBs, List.map_cons, List.map_nil, List.cons.injEq, and_true, UInt8.toNat_ofNat']
    omega
  refine bM hf rfl ?_
  refine rn 2 rfl ?_
  refine cl (ale rfl) (hcc _ _ hs fun st hs => ?_)
  obtain ⟨idt, hs⟩ := hs.usedO
  refine rn 2 rfl ?_
  refine W.o (e_nilck rfl (hs.g 0 rfl)) ?_
  refine W.o (e_faddr rfl (hs.g 0 rfl)) ?_
  refine W.o (l1 rfl (hs.g 0 rfl) rfl) ?_
  refine rn 1 rfl ?_
  refine bs (f := AV.int .u8) [n] hs rfl rfl rfl rfl fun st id2 hs => ?_
  refine apT (s := s) (t := [UInt8.ofNat n.toNat]) hs 2 rfl rfl (by rw [hb]; exact ae_rd (es := 1) (f := AV.int .u8) (o := some [n]) (rd_W (id := id2) rfl)) hl (fun _ => rfl) fun st idt' hs => ?_
  refine W.o (e_nilck rfl (hs.g 1 rfl)) ?_
  refine W.o (e_faddr rfl (hs.g 1 rfl)) ?_
  have hs := hs.p 3 [1, 1] rfl
  refine slT hs rfl rfl fun st hs => ?_
  refine rn 1 rfl ?_
  exact rM (rlt rl0) (hK _ hs.usedA) rfl
end
theorem bld_new {X : Cx} {k : List KJ} {tm : Fr} {fr : List (Nat × AV)} {st : Store} {l : List AOp} {d : Nat} {L : List Asn} {TB T : Nat} (hs : SH st L) (hk : ∀ st id, SH st (bldA TB T id [] :: L) → W X (.ops l :: k) (updL tm ((d, .ptr id 0) :: fr)) st) :
    W X (.ops (⟨.some d, .none, .plain (.allocB TB 2 [.nilptr, .nils])⟩ :: l) :: k) (updL tm fr) st := by
  refine W.po (v := .ptr st.length 0) (st' := st ++ [.cells [.nilB st.length TB 2, .nils]]) (by simp only [evalAI]; rfl) (hk _ _ ?_)
  obtain ⟨a, b, h1, h2, h3, h4⟩ := hs.push (.cells [.nilB st.length TB 2, .nils])
  exact ⟨a, b, .inl ⟨rfl, h1⟩, h2, h3, h4⟩

def bWS (b s : Str) : Option (Int × Unit × Str) := if (b.length + s.length) * 1 ≤ 140737488355328 then some (s.length, (), b ++ s) else none
def bWB (b : Str) (n : Int) : Option (Unit × Str) := if (0 ≤ n ∧ n < 256) ∧ (b.length + 1) * 1 ≤ 140737488355328 then some ((), b ++ [UInt8.ofNat n.toNat]) else none
def bST (b : Str) : Option Str := if b.length ≤ 9223372036854775807 then some b else none
end Go.Proofs.YtcidnoghoifmmaaDoor.AW
end
section
/-
  The builder of strings.
-/



set_option linter.unusedVariables false
set_option linter.unusedSimpArgs false
set_option maxRecDepth 4000
set_option maxHeartbeats 4000000
namespace Go.Proofs.YtcidnoghoifmmaaDoor
open Go AW Go.RowKit
set_option maxRecDepth 100000
attribute [local irreducible] W WD SH XS XLoop DFun XCall XYield
theorem cc_used (b : Nat) (w : World) (h0 : w.cell? ⟨b, 0, none⟩ = some (.pointer (some ⟨b, 0, none⟩))) :
    Calls Tryd.prog 87 #[.pointer (some ⟨b, 0, none⟩)] w fun e w' => e = .returned (.tuple #[]) ∧ w' = w := by
  obtain ⟨j, hj, _⟩ := Option.map_eq_some_iff.1 (show (Tryd.prog.info? 106).map (·.size) = some 2 by kernel_rfl)
  go_enter Tryd.func87, Tryd.ntmps87
  go_wp2
  rw [Lib.run_neq_ptr_same w _ Tryd.underlying104 hj]
  go_wp2
  go_end0
  exact ⟨rfl, rfl⟩
theorem cc_fresh (b : Nat) (w : World) (h0 : w.cell? ⟨b, 0, none⟩ = some (.pointer none)) (hsh : w.shape? b = some (106, 2)) (hfz : w.frozen? ⟨b, 0, none⟩ = false) :
    Calls Tryd.prog 87 #[.pointer (some ⟨b, 0, none⟩)] w fun e w' => e = .returned (.tuple #[]) ∧ w' = w.setCell ⟨b, 0, none⟩ (.pointer (some ⟨b, 0, none⟩)) := by
  obtain ⟨j, hj, hjs⟩ := Option.map_eq_some_iff.1 (show (Tryd.prog.info? 106).map (·.size) = some 2 by kernel_rfl)
  go_enter Tryd.func87, Tryd.ntmps87
  go_wp2
  rw [Lib.run_to_unsafe w ⟨b, 0, none⟩ Tryd.underlying104 Tryd.underlying134 hj (by rw [hjs]; decide) hsh (Nat.zero_lt_succ 1)]
  simp only [Result.andThen]
  rw [Oper.upon_value]
  go_wp2
  rw [run_callFunc_extern Tryd.func95 (by kernel_rfl) (by kernel_rfl) (by kernel_rfl) (e := Extern.AbiNoEscape.same) (by kernel_rfl)]
  rw [Lib.run_noEscape]
  simp only [Result.andThen]
  rw [Oper.upon_value]
  go_wp2
  rw [Lib.run_from_unsafe w ⟨b, 0, none⟩ Tryd.underlying134 Tryd.underlying104 hj hsh (by kernel_rfl)]
  simp only [Result.andThen]
  rw [Oper.upon_value]
  go_wp2
  go_end0
  exact ⟨rfl, rfl⟩
theorem st_nil (b : Nat) (w : World) (h1 : w.cell? ⟨b, 1, none⟩ = some (.slice none 0 0)) :
    Calls Tryd.prog 62 #[.pointer (some ⟨b, 0, none⟩)] w fun e w' => e = .returned (.string ⟨#[]⟩) ∧ w' = w.drew := by
  have c1 : w.drew.cell? ⟨b, 1, none⟩ = some (.slice none 0 0) := h1
  have hUS := fun (W : World) (q : Option Addr) => Lib.run_unsafeString_none (P := Tryd.prog) W 130 3 9 q
  have hSD : (Builtin.unsafeSliceData_ #[67] 130 #[.slice none 0 0]).run Tryd.prog w.drew = .ok (.pointer none) w.drew := rfl
  go_enter Tryd.func62, Tryd.ntmps62
  go_wp2
  go_region
  all_goals (go_wp2; go_ret; exact ⟨rfl, rfl⟩)
theorem st_row (b g cap cells : Nat) (l : List UInt8) (w : World) (hne : l ≠ []) (h1 : w.cell? ⟨b, 1, none⟩ = some (.slice (some ⟨g, 0, none⟩) l.length cap)) (hlc : l.length ≤ cap) (hsh : w.shape? g = some (5, cells)) (hls : l.length ≤ cells) (hl : l.length ≤ 9223372036854775807)
    (hc : ∀ j x, l[j]? = some x → w.cell? ⟨g, j, none⟩ = some (.int .u8 x.toNat)) :
    Calls Tryd.prog 62 #[.pointer (some ⟨b, 0, none⟩)] w fun e w' => e = .returned (.string ⟨l.toArray⟩) ∧ w' = w.drew.freeze ⟨g, 0, none⟩ l.length := by
  have c1 : w.drew.cell? ⟨b, 1, none⟩ = some (.slice (some ⟨g, 0, none⟩) l.length cap) := h1
  have h0 : l.length ≠ 0 := by simpa using hne
  have hSD : (Builtin.unsafeSliceData_ #[67] 130 #[.slice (some ⟨g, 0, none⟩) l.length cap]).run Tryd.prog w.drew = .ok (.pointer (some ⟨g, 0, none⟩)) w.drew :=
    Lib.run_unsafeSliceData_row _ _ _ _ _ _ (by omega)
  have hUS : (Builtin.unsafeString_ #[130, 3] 9 #[.pointer (some ⟨g, 0, none⟩), .int .i64 l.length]).run Tryd.prog w.drew = .ok (.string ⟨l.toArray⟩) (w.drew.freeze ⟨g, 0, none⟩ l.length) :=
    Lib.run_unsafeString_row w.drew 130 3 9 5 Tryd.underlying130 (by kernel_rfl) g cells hsh l hne hls hl fun j x hx => by
      have e : ({ block := g, off := 0 } : Addr).add j = ⟨g, j, none⟩ := (addr_add g 0 j).trans (by rw [Nat.zero_add])
      rw [e]; exact hc j x hx
  clear hc h0 hlc hsh hls
  go_enter Tryd.func62, Tryd.ntmps62
  go_wp2
  go_region
  all_goals (go_wp2; go_ret; exact ⟨rfl, rfl⟩)
theorem cc {E : Glob} {id : Nat} {s : Str} {Ls : List Asn} (K : AV → Store → Prop) (st : Store) (hs : SH st (bldA 106 5 id s :: Ls)) (hK : ∀ st, SH st (bldU 5 id s :: Ls) → K (.tup []) st) : XCall Tryd.prog E 87 [.ptr id 0] st K := bld_check cc_fresh cc_used hs hK
theorem dST {E : Glob} (b : Str) (r : Str) (hF : bST b = some r) : ∀ (K : AV → Store → Prop) (Ls : List Asn) (iP0 : Nat), (∀ st, SH st Ls → K (AV.str r) st) → ∀ (st : Store), SH st (bldA 106 5 iP0 b :: Ls) → XCall Tryd.prog E 62 [.ptr iP0 0] st K := by
  intro K Ls iP0 hK st hs
  unfold bST at hF
  split at hF
  · rename_i h; cases hF; exact bld_string st_nil st_row h hs hK
  · cases hF
theorem dSTF {E : Glob} (b : Str) (r : Str) (hF : bST b = some r) : ∀ (K : AV → Store → Prop) (Ls : List Asn) (iP0 : Nat), (∀ st, SH st (bldF 5 iP0 b :: Ls) → K (AV.str r) st) → ∀ (st : Store), SH st (bldA 106 5 iP0 b :: Ls) → XCall Tryd.prog E 62 [.ptr iP0 0] st K := by
  intro K Ls iP0 hK st hs
  unfold bST at hF
  split at hF
  · rename_i h; cases hF; exact bld_stringF st_nil st_row h hs hK
  · cases hF
theorem dSTG {E : Glob} (b : Str) (r : Str) (hF : bST b = some r) : ∀ (K : AV → Store → Prop) (Ls : List Asn) (iP0 : Nat), (∀ st, SH st (bldF 5 iP0 b :: Ls) → K (AV.str r) st) → ∀ (st : Store), SH st (bldF 5 iP0 b :: Ls) → XCall Tryd.prog E 62 [.ptr iP0 0] st K := by
  intro K Ls iP0 hK st hs
  unfold bST at hF
  split at hF
  · rename_i h; cases hF; exact bld_string2 st_nil st_row h hs hK
  · cases hF
theorem kWS : compF Tryd.prog (muL [14]) 59 = some ⟨19, wsC 87 5, [.tmp 4, .tmp 5]⟩ := by kernel_rfl
theorem dWS {E : Glob} (b s : Str) (r : Int × Unit × Str) (hF : bWS b s = some r) : ∀ (K : AV → Store → Prop) (Ls : List Asn) (iP0 : Nat), (∀ st, SH st (bldA 106 5 iP0 r.2.2 :: Ls) → K (AV.tup [AV.int .i64 r.1, vNif r.2.1]) st) → ∀ (st : Store), SH st (bldA 106 5 iP0 b :: Ls) → XCall Tryd.prog E 59 [.ptr iP0 0, .str s] st K := by
  intro K Ls iP0 hK st hs
  unfold bWS at hF
  split at hF
  · rename_i h; cases hF; exact bld_ws kWS cc h hs hK
  · cases hF
theorem kWB : compF Tryd.prog (muL [14]) 61 = some ⟨17, wbC 87 5, [.tmp 4]⟩ := by kernel_rfl
theorem dWB {E : Glob} (b : Str) (n : Int) (r : Unit × Str) (hF : bWB b n = some r) : ∀ (K : AV → Store → Prop) (Ls : List Asn) (iP0 : Nat), (∀ st, SH st (bldA 106 5 iP0 r.2 :: Ls) → K (vNif r.1) st) → ∀ (st : Store), SH st (bldA 106 5 iP0 b :: Ls) → XCall Tryd.prog E 61 [.ptr iP0 0, .int .u8 n] st K := by
  intro K Ls iP0 hK st hs
  unfold bWB at hF
  split at hF
  · rename_i h; cases hF; exact bld_wb kWB cc h.1 h.2 hs hK
  · cases hF

end Go.Proofs.YtcidnoghoifmmaaDoor
end
section
/-
  A call in a draw that gives up a row born there: what it asks of the function, and the rule.
-/

set_option linter.unusedVariables false
set_option linter.unusedSimpArgs false
namespace Go.Proofs.YtcidnoghoifmmaaDoor.AW
open Go

theorem repL_app {G : Gh} : ∀ {A B : List AV} {us : List Value}, RepL G (A ++ B) us ↔ ∃ u1 u2, us = u1 ++ u2 ∧ RepL G A u1 ∧ RepL G B u2
  | [], B, us => by
    simp only [List.nil_append, RepL]
    exact ⟨fun h => ⟨[], us, rfl, rfl, h⟩, fun ⟨_, _, h1, h2, h3⟩ => by subst h2; subst h1; exact h3⟩
  | a :: A, B, us => by
    simp only [List.cons_append, RepL]
    constructor
    · rintro ⟨u, us', rfl, h1, h2⟩
      obtain ⟨u1, u2, rfl, h3, h4⟩ := repL_app.1 h2
      exact ⟨u :: u1, u2, rfl, ⟨u, u1, rfl, h1, h3⟩, h4⟩
    · rintro ⟨u1, u2, rfl, ⟨u, u1', rfl, h1, h3⟩, h4⟩
      exact ⟨u, u1' ++ u2, rfl, h1, repL_app.2 ⟨u1', u2, rfl, h3, h4⟩⟩

theorem tok_rep {G : Gh} {sl : Slot} {es id : Nat} {xs : List AV} {u : Value} (hsl : G.slots[id]? = some sl) (hd : AV.dataL xs = true) (hx : AV.stripL xs = xs) (h : Rep G (.sl es xs (some id)) u) : Rep { slots := [sl], M := G.M, sh := G.sh } (.sl es xs (some 0)) u := by
  have h2 := strip_rep (G := G) (G' := { slots := [sl], M := G.M, sh := G.sh }) (fun _ _ _ h => h) (v := .sl es xs (some id)) (by simpa only [AV.data] using hd) h
  simp only [AV.strip, hx] at h2
  simp only [Rep] at h h2 ⊢
  obtain ⟨b, o, c, _, h3, ht, sp, hsp, rfl⟩ := h
  obtain ⟨b', o', c', h4, h5, _, sp', hsp', he⟩ := h2
  obtain rfl : sp = none := by
    rcases hsp with h | h
    · exact h
    · cases h.2
  cases he
  refine ⟨b, o, c, h4, h3, ?_, none, .inl rfl, rfl⟩
  simp only [TokOk, hsl, List.getElem?_cons_zero] at ht ⊢
  exact ht

theorem kfun_frame {P : Program} {E : Glob} {f : FuncId} {A B xs : List AV} {es id n : Nat} {v : AV} (hA : AV.dataL A = true ∧ AV.stripL A = A) (hB : AV.dataL B = true ∧ AV.stripL B = B) (hxs : AV.dataL xs = true ∧ AV.stripL xs = xs) (hv : v.data = true ∧ v.strip = v)
    (h : XCall P E f (A ++ (.sl es xs (some 0) :: B)) [.tail n] fun r _ => r = v) : KFun P E f (A ++ (.sl es xs (some id) :: B)) v id n := by
  intro s hs G w vs hr hst
  have hidl : id < G.slots.length := by rw [hst.len]; exact lt_of_getElem? hs
  obtain ⟨sl, hsl⟩ : ∃ sl, G.slots[id]? = some sl := ⟨G.slots[id], by simp [hidl]⟩
  have hmem : sl ∈ G.slots := List.mem_of_getElem? hsl
  have hob := hst.obj id _ _ hs hsl
  have hs1 : StoreRel E { slots := [sl], M := G.M, sh := G.sh } [.tail n] w := by
    refine ⟨rfl, fun i o t hi hti => ?_, fun i j t t' b hij hti htj _ => ?_, hst.mem, hst.one, hst.shp, hst.glob⟩
    · have hi0 := lt_of_getElem? hi
      simp only [List.length_singleton] at hi0
      obtain rfl : i = 0 := by omega
      cases hi
      have hti' : ([sl] : List Slot)[0]? = some t := hti
      cases hti'
      cases sl <;> simp only [ObjRel] at hob ⊢
      exact hob
    · have h1 := lt_of_getElem? hti
      have h2 := lt_of_getElem? htj
      simp only [List.length_singleton] at h1 h2
      omega
  have hr1 : RepL { slots := [sl], M := G.M, sh := G.sh } (A ++ (.sl es xs (some 0) :: B)) vs := by
    obtain ⟨u1, u2, rfl, h1, h2⟩ := repL_app.1 hr
    simp only [RepL] at h2
    obtain ⟨u, u3, rfl, h2, h3⟩ := h2
    have g1 := stripL_rep (G := G) (G' := { slots := [sl], M := G.M, sh := G.sh }) (fun _ _ _ h => h) hA.1 h1
    have g3 := stripL_rep (G := G) (G' := { slots := [sl], M := G.M, sh := G.sh }) (fun _ _ _ h => h) hB.1 h3
    rw [hA.2] at g1
    rw [hB.2] at g3
    refine repL_app.2 ⟨u1, u :: u3, rfl, g1, ?_⟩
    simp only [RepL]
    exact ⟨u, u3, rfl, tok_rep hsl hxs.1 hxs.2 h2, g3⟩
  refine (h _ w vs hr1 hs1).mono fun e w' ⟨u, r, st', G', he, hr', hs', hext, hrv⟩ => ?_
  subst hrv
  have hblk : ∀ b, b < w.heap.size → sl.blk ≠ some b → w'.heap[b]? = w.heap[b]? := fun b hb hn => hext.block b hb fun t ht => by
    simp only [List.mem_singleton] at ht
    subst ht
    exact hn
  have hnewM : ∀ b o u, G'.M b o = some u → G.M b o = some u ∨ sl.blk = some b ∨ w.heap.size ≤ b := fun b o u hu => by
    rcases hext.newM b o u hu with h' | ⟨t, ht, h'⟩ | h'
    · exact .inl h'
    · simp only [List.mem_singleton] at ht
      subst ht
      exact .inr (.inl h')
    · exact .inr (.inr h')
  have key : ∀ (i : Nat) (t : Slot), G.slots[i]? = some t → (G.slots.set id .dead)[i]? = some t ∨ (G.slots.set id .dead)[i]? = some .dead := fun i t hi => by
    by_cases e' : id = i
    · subst e'; exact .inr (List.getElem?_set_self hidl)
    · exact .inl (by rw [List.getElem?_set_ne e']; exact hi)
  have hg : GExt G { slots := G.slots.set id .dead, M := G'.M, sh := G.sh } :=
    ⟨fun _ _ h => h, hext.g.M, by simp, fun i b hi => key i _ hi, fun i b hi => key i _ hi, fun i hi => by rcases key i _ hi with h' | h' <;> exact h', fun i b lo hi n hi' => by
      rcases key i _ hi' with h' | h'
      · exact .inr ⟨b, lo, hi, n, h', Nat.le_refl _, fun _ => ⟨rfl, rfl, rfl⟩⟩
      · exact .inl h'⟩
  have hrep := strip_rep (G := G') (G' := { slots := G.slots.set id .dead, M := G'.M, sh := G.sh }) (fun _ _ _ h => h) hv.1 hr'
  rw [hv.2] at hrep
  refine ⟨u, r, s.set id .dead, { slots := G.slots.set id .dead, M := G'.M, sh := G.sh }, he, hrep, ⟨by simp [hst.len], ?_, ?_, hs'.mem, hs'.one, fun b e n hx => hs'.shp b e n (hext.g.sh _ _ hx), hst.glob.mono hg⟩, ⟨hg, hext.os, hext.tape, hext.output, hext.size, fun b hb hn => hblk b hb (hn sl hmem), fun b o u hu => ?_, fun t htm q hq => ?_⟩, rfl, rfl⟩
  · intro i o t hi hti
    have hti' : (G.slots.set id .dead)[i]? = some t := hti
    by_cases e' : id = i
    · subst e'
      rw [List.getElem?_set_self (lt_of_getElem? hs)] at hi; cases hi
      rw [List.getElem?_set_self hidl] at hti'; cases hti'
      trivial
    · rw [List.getElem?_set_ne e'] at hi
      rw [List.getElem?_set_ne e'] at hti'
      have ho' := hst.obj i o t hi hti'
      have hap : ∀ b, t.blk = some b → sl.blk ≠ some b := fun b hb => hst.apart i id t sl b (Ne.symm e') hti' hsl hb
      refine ho'.keep hg (fun b hb => hblk b (ho'.block hb) (hap b hb)) fun b o u hb hu => ?_
      rcases hnewM b o u hu with h' | h' | h'
      · exact h'
      · exact absurd h' (hap b hb)
      · have := ho'.block hb; omega
  · intro i j t t' b' hij hti htj hbt
    have hti' : (G.slots.set id .dead)[i]? = some t := hti
    have htj' : (G.slots.set id .dead)[j]? = some t' := htj
    by_cases ei : id = i
    · subst ei; rw [List.getElem?_set_self hidl] at hti'; cases hti'; cases hbt
    · rw [List.getElem?_set_ne ei] at hti'
      by_cases ej : id = j
      · subst ej; rw [List.getElem?_set_self hidl] at htj'; cases htj'; intro hx; cases hx
      · rw [List.getElem?_set_ne ej] at htj'
        exact hst.apart i j t t' b' hij hti' htj' hbt
  · rcases hnewM b o u hu with h' | h' | h'
    · exact .inl h'
    · exact .inr (.inl ⟨sl, hmem, h'⟩)
    · exact .inr (.inr h')
  · have htm' : t ∈ G.slots.set id .dead := htm
    rcases List.mem_or_eq_of_mem_set htm' with h' | rfl
    · exact .inl ⟨t, h', hq⟩
    · cases hq

theorem dsl_map {α : Type} {g : α → AV} (hg : ∀ x, DS (g x) (g x)) : ∀ m : List α, DSL (m.map g) (m.map g)
  | [] => dsl_nil
  | x :: m => dsl_cons (hg x) (dsl_map hg m)
theorem kfun_own {P : Program} {E : Glob} {f : FuncId} {A B : List AV} [hA : DtL A] [hB : DtL B] {v : AV} [hv : DtV v] {α : Type} {es id : Nat} {g : α → AV} [hg : DtF g] {m : List α}
    (h : ∀ (K : AV → Store → Prop) (Ls : List Asn) (iP : Nat), (∀ st, SH st Ls → K v st) → ∀ st, SH st (ownA iP (some m) :: Ls) → XCall P E f (A ++ (ownV es g (some m) iP :: B)) st K) : KFun P E f (A ++ (ownV es g (some m) id :: B)) v id m.length := by
  have hm : AV.dataL (m.map g) = true ∧ AV.stripL (m.map g) = m.map g := dsl_map hg.h m
  refine kfun_frame hA.h hB.h hm hv.h (h _ [] 0 (fun _ _ => rfl) [.tail m.length] ?_)
  exact SH.push (st := []) SH.nil (.tail m.length)
section
variable {X : Cx} {k : List KJ} {tm : Fr} {fr : List (Nat × AV)} {st : Store} {l suf : List AOp} {d : Nat} {st0 : Store} {mr r : Nat} {L L' : List Asn}
theorem dkl {f : FuncId} {xs : List AX} (c : Nat) {A B : List AV} [hA : DtL A] [hB : DtL B] {v : AV} [hv : DtV v] {α : Type} {es id : Nat} {g : α → AV} [hg : DtF g] {m : List α} (hs : SH st L) (j : Nat) (hcb : callable X.P f = true)
    (h : ∀ (K : AV → Store → Prop) (Ls : List Asn) (iP : Nat), (∀ st, SH st Ls → K v st) → ∀ st, SH st (ownA iP (some m) :: Ls) → XCall X.P X.E f (A ++ (ownV es g (some m) iP :: B)) st K)
    (hm : AX.t c ∈ xs) (ht : updL tm fr c = ownV es g (some m) id) (ha : xs.map (updL tm fr).x = A ++ (ownV es g (some m) id :: B)) (hl : st0.length ≤ id) (hp : pickL 1 [j] L = some (ownA id (some m) :: L'))
    (hk : ∀ st, SH st L' → WD X st0 mr l r suf k (updL tm ((d, v) :: fr)) st) : WD X st0 mr (⟨.some d, .none, .callv (.c (.fn f [])) xs⟩ :: l) r suf k (updL tm fr) st := by
  have hs2 : SH st (ownA id (some m) :: L') := hs.p 1 [j] hp
  have hget : st[id]? = some (.tail m.length) := hs2.g 0 rfl
  have hkf := kfun_own (id := id) h
  rw [← ha] at hkf
  simp only [WD]
  refine lexQ_kill st0 mr (.some d) f xs l r _ (updL tm fr) st hcb hm ht hl hget hkf ?_
  rw [put_upd]
  exact hk _ (SH.kill hs2)
end
end Go.Proofs.YtcidnoghoifmmaaDoor.AW
end
section
/-
  The program's types.
-/


set_option linter.unusedVariables false
set_option linter.unusedSimpArgs false
set_option maxRecDepth 4000
set_option maxHeartbeats 4000000
namespace Go.Proofs.YtcidnoghoifmmaaDoor
open Go AW
attribute [local irreducible] W WD SH XS XLoop DFun XCall XYield
def c145 (a : Arr 20 Int) : List AV := cA (cI .u64) a
instance (a : Arr 20 Int) : DtL (c145 a) := ⟨cA_ds (fun x => (inferInstance : DtL ((cI .u64) x)).h) a⟩
def v145 (x : Arr 20 Int) : AV := .agg (c145 x)
instance (x : Arr 20 Int) : DtV (v145 x) := ⟨ds_agg (inferInstance : DtL (c145 x)).h⟩
instance : DtF v145 := ⟨fun x => (inferInstance : DtV (v145 x)).h⟩
def c24 (a : Arr 4 Int) : List AV := cF (cI .u64) 0 a.l 4 0
theorem c24_len (a : Arr 4 Int) : (c24 a).length = 4 := rfl
instance (a : Arr 4 Int) : DtL (c24 a) := by unfold c24; infer_instance
theorem c24_one (a : Arr 4 Int) : (c24 a).all AV.one = true := rfl
def v24 (x : Arr 4 Int) : AV := .agg (c24 x)
instance (x : Arr 4 Int) : DtV (v24 x) := ⟨ds_agg (inferInstance : DtL (c24 x)).h⟩
instance : DtF v24 := ⟨fun x => (inferInstance : DtV (v24 x)).h⟩
theorem c24_eq : EqC [.i, .i, .i, .i] c24 := eqC_F (eqC_I .u64) rfl
structure T27 where
 Kind : Int
 Set : Arr 4 Int
 Min : Int
 Max : Int
 Group : Int
 Kids : Option (List T27)
mutual
def c27 : T27 → List AV
 | ⟨x0, x1, x2, x3, x4, x5⟩ => (cI .u8) x0 ++ (c24 x1 ++ ((cI .i64) x2 ++ ((cI .i64) x3 ++ ((cI .i64) x4 ++ ([kk27 x5])))))
def kk27 : Option (List T27) → AV
 | none => .nils
 | some l => .sl 9 (ll27 l) none
def ll27 : List T27 → List AV
 | [] => []
 | x :: l => .agg (c27 x) :: ll27 l
end
def v27 (x : T27) : AV := .agg (c27 x)
theorem ll27_map : ∀ l : List T27, ll27 l = l.map v27
 | [] => by rw [ll27]; rfl
 | x :: l => by rw [ll27, ll27_map l]; rfl
theorem kk27_sl (o : Option (List T27)) : kk27 o = slV 9 v27 o := by
 cases o with
 | none => rw [kk27]; rfl
 | some l => rw [kk27, ll27_map]; rfl
theorem c27_eq (x : T27) : c27 x = (cI .u8) x.Kind ++ (c24 x.Set ++ ((cI .i64) x.Min ++ ((cI .i64) x.Max ++ ((cI .i64) x.Group ++ ((cSl 9 v27) x.Kids))))) := by
 obtain ⟨x0, x1, x2, x3, x4, x5⟩ := x
 rw [c27, kk27_sl]
 rfl
theorem c27_len (x : T27) : (c27 x).length = 9 := by rw [c27_eq]; simp only [List.length_append, (cI_len .i64), (cI_len .u8), c24_len, cSl_len]
theorem c27_one (x : T27) : (c27 x).all AV.one = true := by rw [c27_eq]; exact (one_app ((cI_one .u8) x.Kind) (one_app (c24_one x.Set) (one_app ((cI_one .i64) x.Min) (one_app ((cI_one .i64) x.Max) (one_app ((cI_one .i64) x.Group) (cSl_one x.Kids))))))
theorem lrg27_Kind (x : T27) : LR (c27 x) 0 ((cI .u8) x.Kind) ((cI .u8) x.Kind) (c27 x) :=
 ⟨[], c24 x.Set ++ ((cI .i64) x.Min ++ ((cI .i64) x.Max ++ ((cI .i64) x.Group ++ ((cSl 9 v27) x.Kids)))), by rw [c27_eq]; simp only [List.append_assoc, List.nil_append, List.append_nil], by rw [c27_eq]; simp only [List.append_assoc, List.nil_append, List.append_nil], by simp only [List.length_append, List.length_nil, (cI_len .i64), (cI_len .u8), c24_len, cSl_len]⟩
theorem lr27_Kind (x : T27) (v : Int) : LR (c27 x) 0 ((cI .u8) x.Kind) ((cI .u8) v) (c27 { x with Kind := v }) :=
 ⟨[], c24 x.Set ++ ((cI .i64) x.Min ++ ((cI .i64) x.Max ++ ((cI .i64) x.Group ++ ((cSl 9 v27) x.Kids)))), by rw [c27_eq]; simp only [List.append_assoc, List.nil_append, List.append_nil], by rw [c27_eq]; simp only [List.append_assoc, List.nil_append, List.append_nil], by simp only [List.length_append, List.length_nil, (cI_len .i64), (cI_len .u8), c24_len, cSl_len]⟩
theorem lrg27_Set (x : T27) : LR (c27 x) 1 (c24 x.Set) (c24 x.Set) (c27 x) :=
 ⟨(cI .u8) x.Kind, (cI .i64) x.Min ++ ((cI .i64) x.Max ++ ((cI .i64) x.Group ++ ((cSl 9 v27) x.Kids))), by rw [c27_eq]; simp only [List.append_assoc, List.nil_append, List.append_nil], by rw [c27_eq]; simp only [List.append_assoc, List.nil_append, List.append_nil], by simp only [List.length_append, List.length_nil, (cI_len .i64), (cI_len .u8), c24_len, cSl_len]⟩
theorem lr27_Set (x : T27) (v : Arr 4 Int) : LR (c27 x) 1 (c24 x.Set) (c24 v) (c27 { x with Set := v }) :=
 ⟨(cI .u8) x.Kind, (cI .i64) x.Min ++ ((cI .i64) x.Max ++ ((cI .i64) x.Group ++ ((cSl 9 v27) x.Kids))), by rw [c27_eq]; simp only [List.append_assoc, List.nil_append, List.append_nil], by rw [c27_eq]; simp only [List.append_assoc, List.nil_append, List.append_nil], by simp only [List.length_append, List.length_nil, (cI_len .i64), (cI_len .u8), c24_len, cSl_len]⟩
theorem lrg27_Min (x : T27) : LR (c27 x) 5 ((cI .i64) x.Min) ((cI .i64) x.Min) (c27 x) :=
 ⟨(cI .u8) x.Kind ++ (c24 x.Set), (cI .i64) x.Max ++ ((cI .i64) x.Group ++ ((cSl 9 v27) x.Kids)), by rw [c27_eq]; simp only [List.append_assoc, List.nil_append, List.append_nil], by rw [c27_eq]; simp only [List.append_assoc, List.nil_append, List.append_nil], by simp only [List.length_append, List.length_nil, (cI_len .i64), (cI_len .u8), c24_len, cSl_len]⟩
theorem lr27_Min (x : T27) (v : Int) : LR (c27 x) 5 ((cI .i64) x.Min) ((cI .i64) v) (c27 { x with Min := v }) :=
 ⟨(cI .u8) x.Kind ++ (c24 x.Set), (cI .i64) x.Max ++ ((cI .i64) x.Group ++ ((cSl 9 v27) x.Kids)), by rw [c27_eq]; simp only [List.append_assoc, List.nil_append, List.append_nil], by rw [c27_eq]; simp only [List.append_assoc, List.nil_append, List.append_nil], by simp only [List.length_append, List.length_nil, (cI_len .i64), (cI_len .u8), c24_len, cSl_len]⟩
theorem lrg27_Max (x : T27) : LR (c27 x) 6 ((cI .i64) x.Max) ((cI .i64) x.Max) (c27 x) :=
 ⟨(cI .u8) x.Kind ++ (c24 x.Set ++ ((cI .i64) x.Min)), (cI .i64) x.Group ++ ((cSl 9 v27) x.Kids), by rw [c27_eq]; simp only [List.append_assoc, List.nil_append, List.append_nil], by rw [c27_eq]; simp only [List.append_assoc, List.nil_append, List.append_nil], by simp only [List.length_append, List.length_nil, (cI_len .i64), (cI_len .u8), c24_len, cSl_len]⟩
theorem lr27_Max (x : T27) (v : Int) : LR (c27 x) 6 ((cI .i64) x.Max) ((cI .i64) v) (c27 { x with Max := v }) :=
 ⟨(cI .u8) x.Kind ++ (c24 x.Set ++ ((cI .i64) x.Min)), (cI .i64) x.Group ++ ((cSl 9 v27) x.Kids), by rw [c27_eq]; simp only [List.append_assoc, List.nil_append, List.append_nil], by rw [c27_eq]; simp only [List.append_assoc, List.nil_append, List.append_nil], by simp only [List.length_append, List.length_nil, (cI_len .i64), (cI_len .u8), c24_len, cSl_len]⟩
theorem lrg27_Group (x : T27) : LR (c27 x) 7 ((cI .i64) x.Group) ((cI .i64) x.Group) (c27 x) :=
 ⟨(cI .u8) x.Kind ++ (c24 x.Set ++ ((cI .i64) x.Min ++ ((cI .i64) x.Max))), (cSl 9 v27) x.Kids, by rw [c27_eq]; simp only [List.append_assoc, List.nil_append, List.append_nil], by rw [c27_eq]; simp only [List.append_assoc, List.nil_append, List.append_nil], by simp only [List.length_append, List.length_nil, (cI_len .i64), (cI_len .u8), c24_len, cSl_len]⟩
theorem lrg27_Kids (x : T27) : LR (c27 x) 8 ((cSl 9 v27) x.Kids) ((cSl 9 v27) x.Kids) (c27 x) :=
 ⟨(cI .u8) x.Kind ++ (c24 x.Set ++ ((cI .i64) x.Min ++ ((cI .i64) x.Max ++ ((cI .i64) x.Group)))), [], by rw [c27_eq]; simp only [List.append_assoc, List.nil_append, List.append_nil], by rw [c27_eq]; simp only [List.append_assoc, List.nil_append, List.append_nil], by simp only [List.length_append, List.length_nil, (cI_len .i64), (cI_len .u8), c24_len, cSl_len]⟩
theorem lr27_Kids (x : T27) (v : Option (List T27)) : LR (c27 x) 8 ((cSl 9 v27) x.Kids) ((cSl 9 v27) v) (c27 { x with Kids := v }) :=
 ⟨(cI .u8) x.Kind ++ (c24 x.Set ++ ((cI .i64) x.Min ++ ((cI .i64) x.Max ++ ((cI .i64) x.Group)))), [], by rw [c27_eq]; simp only [List.append_assoc, List.nil_append, List.append_nil], by rw [c27_eq]; simp only [List.append_assoc, List.nil_append, List.append_nil], by simp only [List.length_append, List.length_nil, (cI_len .i64), (cI_len .u8), c24_len, cSl_len]⟩
mutual
theorem c27_ds : ∀ x : T27, DSL (c27 x) (c27 x)
 | ⟨x0, x1, x2, x3, x4, x5⟩ => by rw [c27]; exact (dsl_app (inferInstance : DtL ((cI .u8) x0)).h (dsl_app (inferInstance : DtL (c24 x1)).h (dsl_app (inferInstance : DtL ((cI .i64) x2)).h (dsl_app (inferInstance : DtL ((cI .i64) x3)).h (dsl_app (inferInstance : DtL ((cI .i64) x4)).h (dsl_cons (kk27_ds x5) dsl_nil))))))
theorem kk27_ds : ∀ o : Option (List T27), DS (kk27 o) (kk27 o)
 | none => by rw [kk27]; exact ⟨rfl, rfl⟩
 | some l => by rw [kk27]; exact ⟨by simp only [AV.data]; exact (ll27_ds l).1, by simp only [AV.strip]; rw [(ll27_ds l).2]⟩
theorem ll27_ds : ∀ l : List T27, DSL (ll27 l) (ll27 l)
 | [] => by rw [ll27]; exact dsl_nil
 | x :: l => by rw [ll27]; exact dsl_cons (ds_agg (c27_ds x)) (ll27_ds l)
end
instance (x : T27) : DtL (c27 x) := ⟨c27_ds x⟩
instance (x : T27) : DtV (v27 x) := ⟨ds_agg (c27_ds x)⟩
instance : DtF v27 := ⟨fun x => (inferInstance : DtV (v27 x)).h⟩
def bx88_r (i : Nat) (x : Sl Bool) : Asn := bx1 fun j0 => [pt i (.cells ([rvV 1 x j0])), rvA cB j0 x]
structure T76 where
 Kind : Int
 Set : Arr 4 Int
 To : Int
 Group : Int
 Last : Int
 Slot : Int
 deriving DecidableEq
def c76 (x : T76) : List AV := (cI .u8) x.Kind ++ (c24 x.Set ++ ((cI .i64) x.To ++ ((cI .i64) x.Group ++ ((cI .i64) x.Last ++ ((cI .i64) x.Slot)))))
theorem c76_len (x : T76) : (c76 x).length = 9 := rfl
theorem c76_one (x : T76) : (c76 x).all AV.one = true := rfl
instance (x : T76) : DtL (c76 x) := by unfold c76; infer_instance
def v76 (x : T76) : AV := .agg (c76 x)
instance (x : T76) : DtV (v76 x) := ⟨ds_agg (inferInstance : DtL (c76 x)).h⟩
instance : DtF v76 := ⟨fun x => (inferInstance : DtV (v76 x)).h⟩
structure T71 where
 code : Sl T76
 slots : Int
 free : Int
def c71 (x : T71) : List AV := (cSl 9 v76) x.code ++ ((cI .i64) x.slots ++ ((cI .i64) x.free))
instance (x : T71) : DtL (c71 x) := by unfold c71; infer_instance
def v71 (x : T71) : AV := .agg (c71 x)
instance (x : T71) : DtV (v71 x) := ⟨ds_agg (inferInstance : DtL (c71 x)).h⟩
instance : DtF v71 := ⟨fun x => (inferInstance : DtV (v71 x)).h⟩
def bx71_0r (i : Nat) (x : T71) : Asn := bx1 fun j0 => [pt i (.cells ([rvV 9 x.code j0] ++ ((cI .i64) (x.slots) ++ ((cI .i64) (x.free))))), rvA c76 j0 x.code]
structure T128 where
 in_ : Sl Bool
 list : Sl Int
def c128 (x : T128) : List AV := (cSl 1 AV.bool) x.in_ ++ ((cSl 1 (AV.int .i64)) x.list)
instance (x : T128) : DtL (c128 x) := by unfold c128; infer_instance
def v128 (x : T128) : AV := .agg (c128 x)
instance (x : T128) : DtV (v128 x) := ⟨ds_agg (inferInstance : DtL (c128 x)).h⟩
instance : DtF v128 := ⟨fun x => (inferInstance : DtV (v128 x)).h⟩
def bx128_0r1o (i : Nat) (x : T128) : Asn := bx2 fun j0 j1 => [pt i (.cells ([rvV 1 x.in_ j0] ++ ([ownV 1 (AV.int .i64) x.list j1]))), rvA cB j0 x.in_, ownA j1 x.list]
structure T45 where
 Groups : Int
 Slots : Int
 Code : Sl T76
def c45 (x : T45) : List AV := (cI .i64) x.Groups ++ ((cI .i64) x.Slots ++ ((cSl 9 v76) x.Code))
theorem c45_len (x : T45) : (c45 x).length = 3 := rfl
theorem c45_one (x : T45) : (c45 x).all AV.one = true := (one_app ((cI_one .i64) x.Groups) (one_app ((cI_one .i64) x.Slots) (cSl_one x.Code)))
instance (x : T45) : DtL (c45 x) := by unfold c45; infer_instance
def v45 (x : T45) : AV := .agg (c45 x)
instance (x : T45) : DtV (v45 x) := ⟨ds_agg (inferInstance : DtL (c45 x)).h⟩
instance : DtF v45 := ⟨fun x => (inferInstance : DtV (v45 x)).h⟩
def bx58_o (i : Nat) (x : Sl Int) : Asn := bx1 fun j0 => [pt i (.cells ([ownV 1 (AV.int .i64) x j0])), ownA j0 x]
theorem c76_eq : EqC [.i, .i, .i, .i, .i, .i, .i, .i, .i] c76 := fun x y => by
 refine (show AV.eqKs [.i, .i, .i, .i, .i, .i, .i, .i, .i] (c76 x) (c76 y) = some _ from eqKs_app _ _ _ _ ((eqC_I .u8) x.Kind y.Kind) _ _ _ _ (eqKs_app _ _ _ _ (c24_eq x.Set y.Set) _ _ _ _ (eqKs_app _ _ _ _ ((eqC_I .i64) x.To y.To) _ _ _ _ (eqKs_app _ _ _ _ ((eqC_I .i64) x.Group y.Group) _ _ _ _ (eqKs_app _ _ _ _ ((eqC_I .i64) x.Last y.Last) _ _ _ _ ((eqC_I .i64) x.Slot y.Slot)))))).trans ?_
 obtain ⟨x0, x1, x2, x3, x4, x5⟩ := x
 obtain ⟨y0, y1, y2, y3, y4, y5⟩ := y
 simp only [T76.mk.injEq, Bool.decide_and]
structure T50 where
 From : Int
 To : Int
 deriving DecidableEq
def c50 (x : T50) : List AV := (cI .i64) x.From ++ ((cI .i64) x.To)
instance (x : T50) : DtL (c50 x) := by unfold c50; infer_instance
def v50 (x : T50) : AV := .agg (c50 x)
instance (x : T50) : DtV (v50 x) := ⟨ds_agg (inferInstance : DtL (c50 x)).h⟩
instance : DtF v50 := ⟨fun x => (inferInstance : DtV (v50 x)).h⟩
structure T80 where
 a : Sl Int
 b : Sl Int
 text : Str
def c80 (x : T80) : List AV := (cSl 1 (AV.int .i64)) x.a ++ ((cSl 1 (AV.int .i64)) x.b ++ (cS x.text))
theorem c80_len (x : T80) : (c80 x).length = 3 := rfl
theorem c80_one (x : T80) : (c80 x).all AV.one = true := (one_app (cSl_one x.a) (one_app (cSl_one x.b) (cS_one x.text)))
instance (x : T80) : DtL (c80 x) := by unfold c80; infer_instance
def v80 (x : T80) : AV := .agg (c80 x)
instance (x : T80) : DtV (v80 x) := ⟨ds_agg (inferInstance : DtL (c80 x)).h⟩
instance : DtF v80 := ⟨fun x => (inferInstance : DtV (v80 x)).h⟩
structure T117 where
 p : T45
def c117 (x : T117) : List AV := c45 x.p
instance (x : T117) : DtL (c117 x) := by unfold c117; infer_instance
def v117 (x : T117) : AV := .agg (c117 x)
instance (x : T117) : DtV (v117 x) := ⟨ds_agg (inferInstance : DtL (c117 x)).h⟩
instance : DtF v117 := ⟨fun x => (inferInstance : DtV (v117 x)).h⟩
structure T60 where
 a : Sl Int
 b : Sl Int
 s : Str
def c60 (x : T60) : List AV := (cSl 1 (AV.int .i64)) x.a ++ ((cSl 1 (AV.int .i64)) x.b ++ (cS x.s))
instance (x : T60) : DtL (c60 x) := by unfold c60; infer_instance
def v60 (x : T60) : AV := .agg (c60 x)
instance (x : T60) : DtV (v60 x) := ⟨ds_agg (inferInstance : DtL (c60 x)).h⟩
instance : DtF v60 := ⟨fun x => (inferInstance : DtV (v60 x)).h⟩
def c89 (a : Arr 2 (Sl Int)) : List AV := cF (cSl 1 (AV.int .i64)) none a.l 2 0
instance (a : Arr 2 (Sl Int)) : DtL (c89 a) := by unfold c89; infer_instance
def v89 (x : Arr 2 (Sl Int)) : AV := .agg (c89 x)
instance (x : Arr 2 (Sl Int)) : DtV (v89 x) := ⟨ds_agg (inferInstance : DtL (c89 x)).h⟩
instance : DtF v89 := ⟨fun x => (inferInstance : DtV (v89 x)).h⟩
def c56 (a : Arr 256 Int) : List AV := cA (cI .i64) a
instance (a : Arr 256 Int) : DtL (c56 a) := ⟨cA_ds (fun x => (inferInstance : DtL ((cI .i64) x)).h) a⟩
def v56 (x : Arr 256 Int) : AV := .agg (c56 x)
instance (x : Arr 256 Int) : DtV (v56 x) := ⟨ds_agg (inferInstance : DtL (c56 x)).h⟩
instance : DtF v56 := ⟨fun x => (inferInstance : DtV (v56 x)).h⟩
def g0 : Arr 20 Int := (⟨[1, 10, 100, 1000, 10000, 100000, 1000000, 10000000, 100000000, 1000000000, 10000000000, 100000000000, 1000000000000, 10000000000000, 100000000000000, 1000000000000000, 10000000000000000, 100000000000000000, 1000000000000000000, 10000000000000000000], rfl⟩ : Arr 20 Int)
def gE : Glob := fun g => if g = 0 then some (c145 g0) else none
end Go.Proofs.YtcidnoghoifmmaaDoor
end
section
/-
  Readers of the arguments' types.
-/



namespace Go.Proofs.YtcidnoghoifmmaaDoor
open Go AW
set_option linter.unusedVariables false
set_option linter.unusedSimpArgs false
set_option maxRecDepth 100000
theorem rf0 {H : Type} {enc : TypeId × Value → H} {P : Program} {W : World} {base : Nat} {t : TypeId} {α : Type} {c : α → List AV} {ok : α → Prop} {bk : α → Nat} : RdF 0 enc P W base t c ok bk := ⟨fun {fuel cs x} h e => by
  obtain rfl : fuel = 0 := by omega
  simp [DataW.trod] at e⟩
theorem rfS1 {H : Type} {enc : TypeId × Value → H} {P : Program} {W : World} {base : Nat} {t : TypeId} {α : Type} {c : α → List AV} {ok : α → Prop} {bk : α → Nat} (n : Nat) (h : ∀ m, m < n → RdF (m + 1) enc P W base t c ok bk) : RdF n enc P W base t c ok bk := by
  cases n with
  | zero => exact rf0
  | succ m => exact h m (by omega)
mutual
def okr27 : T27 → Prop
 | ⟨x0, x1, x2, x3, x4, x5⟩ => okI .u8 x0 ∧ okA .u64 x1 ∧ okI .i64 x2 ∧ okI .i64 x3 ∧ okI .i64 x4 ∧ okro27 x5 ∧ True
def okro27 : Option (List T27) → Prop
 | none => True
 | some l => okrl27 l
def okrl27 : List T27 → Prop
 | [] => True
 | x :: l => okr27 x ∧ okrl27 l
end
mutual
def bkr27 : T27 → Nat
 | ⟨x0, x1, x2, x3, x4, x5⟩ => (bk1 x0 + (bk1 x1 + (bk1 x2 + (bk1 x3 + (bk1 x4 + (bkro27 x5 + 0)))))) + 1
def bkro27 : Option (List T27) → Nat
 | none => 1
 | some l => bkrl27 l + 1
def bkrl27 : List T27 → Nat
 | [] => 0
 | x :: l => bkr27 x + bkrl27 l
end
theorem okrl27_iff : ∀ l : List T27, okrl27 l ↔ ∀ x ∈ l, okr27 x
 | [] => by simp [okrl27]
 | x :: l => by simp [okrl27, okrl27_iff l]
theorem okro27_iff (o : Option (List T27)) : okro27 o ↔ ∀ x ∈ ls o, okr27 x := by
 cases o with
 | none => simp [okro27, ls]
 | some l => rw [okro27, okrl27_iff]; rfl
theorem bkrl27_sum : ∀ l : List T27, bkrl27 l = (l.map bkr27).sum
 | [] => rfl
 | x :: l => by rw [bkrl27, bkrl27_sum l]; rfl
theorem bkro27_eq (o : Option (List T27)) : bkro27 o = bkSl bkr27 o := by
 cases o with
 | none => rfl
 | some l => rw [bkro27, bkrl27_sum]; rfl
section
variable {H : Type} {enc : TypeId × Value → H} {W : World} {base : Nat}
theorem rdr27 : ∀ n, RdF n enc Tryd.prog W base 28 c27 okr27 bkr27 := by
 intro n
 induction n using Nat.strongRecOn with
 | _ n jh =>
  cases n with
  | zero => exact rf0
  | succ n =>
   have ih : ∀ m, m < n → RdF m enc Tryd.prog W base 28 c27 okr27 bkr27 := fun m h => jh m (by omega)
   exact rfT (m := 9) (c' := c27) (ok' := okr27) (bk' := bkr27) (γ := Int × (Arr 4 Int) × Int × Int × Int × Option (List T27) × Unit) (fun a => T27.mk a.1 a.2.1 a.2.2.1 a.2.2.2.1 a.2.2.2.2.1 a.2.2.2.2.2.1) Tryd.underlying28 (by kernel_rfl) (rtCons (i := 0) (o := 0) (o' := 1) rfl (by kernel_rfl) (by kernel_rfl) (rfI Tryd.underlying22) (rtCons (i := 1) (o := 1) (o' := 5) rfl (by kernel_rfl) (by kernel_rfl) (rfA (c := c24) (fun a => cF_A (cI .u64) 0 a) Tryd.underlying25 Tryd.underlying23 (by kernel_rfl) (by kernel_rfl)) (rtCons (i := 2) (o := 5) (o' := 6) rfl (by kernel_rfl) (by kernel_rfl) (rfI Tryd.underlying3) (rtCons (i := 3) (o := 6) (o' := 7) rfl (by kernel_rfl) (by kernel_rfl) (rfI Tryd.underlying3) (rtCons (i := 4) (o := 7) (o' := 8) rfl (by kernel_rfl) (by kernel_rfl) (rfI Tryd.underlying3) (rtCons (i := 5) (o := 8) (o' := 9) rfl (by kernel_rfl) (by kernel_rfl) (rfS1 n fun m hm => rfSl (es := 9) (f := v27) Tryd.underlying26 (by kernel_rfl) (by decide) (ih m hm) agg_rep) rtNil)))))) (fun a => by rw [c27_eq]; simp only [List.append_nil]) (fun a h => by rw [okr27]; simp only [okro27_iff]; exact h) (fun a => by rw [bkr27]; simp only [bkro27_eq]; exact Nat.le_refl _)
end
end Go.Proofs.YtcidnoghoifmmaaDoor
end
section
/-
  A call into Go's library by its contract: strconv.Itoa, whose table of powers the variables list.
-/


set_option linter.unusedVariables false
namespace Go.Proofs.YtcidnoghoifmmaaDoor.AW
open Go

theorem repl_intsR {G : Gh} {k : IntKind} : ∀ {zs : List Int} {us : List Value}, RepL G (zs.flatMap (cI k)) us → us = zs.map (Value.int k)
  | [], us, h => by simpa [RepL] using h
  | z :: zs, us, h => by
    have h' : RepL G (.int k z :: zs.flatMap (cI k)) us := h
    simp only [RepL] at h'
    obtain ⟨u, us', rfl, hu, hr⟩ := h'
    simp only [Rep] at hu
    rw [hu, repl_intsR hr, List.map_cons]

theorem tab_of_glob {P : Program} {E : Glob} {G : Gh} {st : Store} {w : World} (hs : StoreRel E G st w) {name : String} {g : Nat} {k : IntKind} {zs : List Int} (hg : P.globalNamed name = some g) (hE : E g = some (zs.flatMap (cI k))) : Lib.TabIs P w name k zs := by
  obtain ⟨us, hr, hm, e, hsh⟩ := hs.glob g _ hE
  have hus := repl_intsR hr
  obtain ⟨arr, fz, h1, h2⟩ := hs.shp g e _ hsh
  unfold Lib.TabIs World.var?
  rw [hg]
  simp only [Option.bind_some, h1]
  congr 1
  apply Array.ext
  · rw [h2, hus]; simp
  · intro i hi hi'
    have hiu : i < us.length := by rw [← h2]; exact hi
    have h3 := hs.mem _ _ _ (hm i us[i] (by simp [hiu]))
    simp only [World.cell?, h1, Option.isSome_none, Bool.false_eq_true, if_false] at h3
    rw [Array.getElem?_eq_getElem hi] at h3
    have h4 : arr[i] = us[i] := by simpa using h3
    rw [h4]
    simp [hus]

theorem StoreRel.same {E : Glob} {G : Gh} {st : Store} {w w' : World} (h : StoreRel E G st w) (hb : ∀ b, b < w.heap.size → w'.heap[b]? = w.heap[b]?) : StoreRel E G st w' where
  len := h.len
  obj := fun i o s ho hs => (h.obj i o s ho hs).keep (GExt.refl G) (fun b hb' => hb b ((h.obj i o s ho hs).block hb')) fun b o u _ hu => hu
  apart := h.apart
  mem := fun b o u hu => by
    have := h.mem b o u hu
    rw [← this]
    exact World.cell?_of_block (w := w) (w' := w') (a := ⟨b, o, none⟩) (hb b (h.memBlock hu))
  one := h.one
  shp := fun b e n hx => by
    obtain ⟨arr, fz, h1, h2⟩ := h.shp b e n hx
    exact ⟨arr, fz, by rw [hb b (h.shb hx)]; exact h1, h2⟩
  glob := h.glob

theorem Ext.grow {G : Gh} {w : World} (k : Nat) (os : Array Obj) : Ext G w G (Sort.grow (w.drewN k) os) :=
  ⟨GExt.refl G, rfl, rfl, rfl, by simp [Sort.size_grow], fun b hb _ => Sort.heap_grow_old (w.drewN k) os hb, fun _ _ _ h => .inl h, fun s hs _ hb => .inl ⟨s, hs, hb⟩⟩

def itoaF (n : Int) : Option Str := if -9223372036854775808 ≤ n ∧ n ≤ 9223372036854775807 then some (Lib.itoa n) else none

theorem dItoa_of {P : Program} {E : Glob} {f : FuncId} {g : Nat} (hc : ∀ (n : Int), -9223372036854775808 ≤ n → n ≤ 9223372036854775807 → ∀ w : World, Lib.TabIs P w "internal/strconv.uint64pow10" .u64 Lib.pow10Tab →
      Calls P f #[.int .i64 n] w fun e w' => e = .returned (.string ⟨(Lib.itoa n).toArray⟩) ∧ ∃ k os, w' = Sort.grow (w.drewN k) os)
    (hg : P.globalNamed "internal/strconv.uint64pow10" = some g) (hE : E g = some (Lib.pow10Tab.flatMap (cI .u64))) (n : Int) (r : Str) (hF : itoaF n = some r) : DFun P E f [.int .i64 n] (.str r) := by
  unfold itoaF at hF
  split at hF
  · rename_i hn
    cases hF
    intro G w vs hr hs
    simp only [RepL, Rep] at hr
    obtain ⟨u, us, rfl, rfl, rfl⟩ := hr
    refine (hc n hn.1 hn.2 w (tab_of_glob hs hg hE)).mono fun e w' ⟨he, k, os, hw⟩ => ?_
    subst hw
    exact ⟨_, .str (Lib.itoa n), [], G, he, by simp only [Rep]; exact ⟨_, by simp, rfl⟩, hs.same fun b hb => Sort.heap_grow_old (w.drewN k) os hb, Ext.grow k os, rfl, rfl⟩
  · cases hF
end Go.Proofs.YtcidnoghoifmmaaDoor.AW
end
section
/-
  DERIVED: THE SHELF's CONTRACTS AT THIS DUMP, IN PLAIN WORDS (tools/lay-plain.mjs out of 'TrydShelf.lean', which tools/lay-shelf.mjs wrote): THE SAME DECLARATIONS UNDER THE SAME NAMES: 'import', 'namespace', 'open', 'def', 'theorem' AND NOTHING ELSE: no command of the shelf's: FOR A HAND-IN. Each laying: the table of numbers ('.._ren') and one theorem, a field a fact of the dump's own or the kernel's comparison; each contract: ONE APPLICATION.
-/



namespace Go.Proofs
open Go.Shelf
def Tryd.laysM171_ren : Go.Shelf.Ren := ⟨fun | 171 => 60 | 243 => 88 | 246 => 96 | 283 => 102 | 284 => 103 | 285 => 104 | 286 => 105 | 129 => 108 | 317 => 107 | 318 => 109 | 319 => 110 | 320 => 111 | 337 => 112 | 338 => 113 | n => n, fun | 3 => 3 | 9 => 9 | 2 => 2 | 4 => 4 | 171 => 140 | 0 => 0 | 53 => 23 | 37 => 67 | 5 => 5 | 173 => 143 | 212 => 145 | 51 => 146 | 20 => 20 | 213 => 147 | 46 => 90 | 232 => 150 | 233 => 151 | n => n, fun | 17 => 0 | 18 => 1 | 19 => 2 | n => n⟩
theorem Tryd.laysM171 : Go.Proofs.LaysM.n171 Tryd.prog Tryd.laysM171_ren := {
  mixed := by kernel_rfl
  f129 := Tryd.func108.trans (congrArg some (by kernel_rfl))
  f171 := Tryd.func60.trans (congrArg some (by kernel_rfl))
  f243 := Tryd.func88.trans (congrArg some (by kernel_rfl))
  f246 := Tryd.func96.trans (congrArg some (by kernel_rfl))
  f283 := Tryd.func102.trans (congrArg some (by kernel_rfl))
  f284 := Tryd.func103.trans (congrArg some (by kernel_rfl))
  f285 := Tryd.func104.trans (congrArg some (by kernel_rfl))
  f286 := Tryd.func105.trans (congrArg some (by kernel_rfl))
  f317 := Tryd.func107.trans (congrArg some (by kernel_rfl))
  f318 := Tryd.func109.trans (congrArg some (by kernel_rfl))
  f319 := Tryd.func110.trans (congrArg some (by kernel_rfl))
  f320 := Tryd.func111.trans (congrArg some (by kernel_rfl))
  f337 := Tryd.func112.trans (congrArg some (by kernel_rfl))
  f338 := Tryd.func113.trans (congrArg some (by kernel_rfl))
  t0 := Tryd.underlying0
  a0 := Tryd.isAgg0
  z0 := Tryd.sizeOf0
  v0 := Tryd.zeroValue0
  t2 := Tryd.underlying2
  a2 := Tryd.isAgg2
  z2 := Tryd.sizeOf2
  v2 := Tryd.zeroValue2
  t3 := Tryd.underlying3
  a3 := Tryd.isAgg3
  z3 := Tryd.sizeOf3
  v3 := Tryd.zeroValue3
  t4 := Tryd.underlying4
  a4 := Tryd.isAgg4
  z4 := Tryd.sizeOf4
  v4 := Tryd.zeroValue4
  t5 := Tryd.underlying5
  a5 := Tryd.isAgg5
  z5 := Tryd.sizeOf5
  v5 := Tryd.zeroValue5
  t9 := Tryd.underlying9
  a9 := Tryd.isAgg9
  z9 := Tryd.sizeOf9
  v9 := Tryd.zeroValue9
  t20 := Tryd.underlying20
  a20 := Tryd.isAgg20
  z20 := Tryd.sizeOf20
  v20 := Tryd.zeroValue20
  t37 := Tryd.underlying67
  a37 := Tryd.isAgg67
  z37 := Tryd.sizeOf67
  v37 := Tryd.zeroValue67
  t46 := Tryd.underlying90
  a46 := Tryd.isAgg90
  z46 := Tryd.sizeOf90
  v46 := Tryd.zeroValue90
  t51 := Tryd.underlying146
  a51 := Tryd.isAgg146
  z51 := Tryd.sizeOf146
  v51 := Tryd.zeroValue146
  t53 := Tryd.underlying23
  a53 := Tryd.isAgg23
  z53 := Tryd.sizeOf23
  v53 := Tryd.zeroValue23
  t171 := Tryd.underlying140
  a171 := Tryd.isAgg140
  z171 := Tryd.sizeOf140
  v171 := Tryd.zeroValue140
  t173 := Tryd.underlying143
  a173 := Tryd.isAgg143
  z173 := Tryd.sizeOf143
  v173 := Tryd.zeroValue143
  t212 := Tryd.underlying145
  a212 := Tryd.isAgg145
  z212 := Tryd.sizeOf145
  v212 := Tryd.zeroValue145
  t213 := Tryd.underlying147
  a213 := Tryd.isAgg147
  z213 := Tryd.sizeOf147
  t232 := Tryd.underlying150
  a232 := Tryd.isAgg150
  z232 := Tryd.sizeOf150
  v232 := Tryd.zeroValue150
  t233 := Tryd.underlying151
  a233 := Tryd.isAgg151
  z233 := Tryd.sizeOf151
  v233 := Tryd.zeroValue151
  g17 := by kernel_rfl
  g18 := by kernel_rfl
  g19 := by kernel_rfl
  i0 := by kernel_rfl
  i2 := by kernel_rfl
  i3 := by kernel_rfl
  i4 := by kernel_rfl
  i5 := by kernel_rfl
  i9 := by kernel_rfl
  i20 := by kernel_rfl
  i37 := by kernel_rfl
  i46 := by kernel_rfl
  i51 := by kernel_rfl
  i53 := by kernel_rfl
  i171 := by kernel_rfl
  i173 := by kernel_rfl
  i212 := by kernel_rfl
  i232 := by kernel_rfl
  i233 := by kernel_rfl
  m17 := by kernel_rfl
  m18 := by kernel_rfl
  m19 := by kernel_rfl }
open Go.RowKit Go.Sort Go.Lib in
/-- strconv.Itoa: "Itoa is equivalent to FormatInt(int64(i), 10).": i's DECIMAL NUMERAL ('Lib.itoa': a '-' where i is negative, then the digits), FOR EVERY int. The world behind the call: the world before it, new blocks behind the heap (the library's 'var a [24]byte'), draws. (LAID: no walk: one application.) -/
theorem Tryd.strconv_Itoa (n : Int) (h0 : -9223372036854775808 ≤ n) (h1 : n ≤ 9223372036854775807) (w : World) (htab : Lib.TabIs Tryd.prog w "internal/strconv.uint64pow10" .u64 Lib.pow10Tab) :
    Calls Tryd.prog 60 #[.int .i64 n] w fun e w' => e = .returned (.string ⟨(Lib.itoa n).toArray⟩) ∧ ∃ k os, w' = grow (w.drewN k) os := Any.strconv_Itoa Tryd.laysM171 n h0 h1 w htab
end Go.Proofs
end
section
/-
  A number's numeral, by the library's contract.
-/



set_option linter.unusedVariables false
set_option linter.unusedSimpArgs false
set_option maxRecDepth 4000
set_option maxHeartbeats 4000000
namespace Go.Proofs.YtcidnoghoifmmaaDoor
open Go AW
attribute [local irreducible] W WD SH XS XLoop DFun XCall XYield
theorem dItoa (n : Int) (r : Str) (hF : itoaF n = some r) : DFun Tryd.prog gE 60 [.int .i64 n] (.str r) :=
 dItoa_of (g := 0) (fun n h0 h1 w ht => Tryd.strconv_Itoa n h0 h1 w ht) (by kernel_rfl) ((rfl : gE 0 = some (c145 g0)).trans (congrArg (fun l => some (List.flatMap (cI .u64) l)) (show g0.l = Lib.pow10Tab by decide +kernel))) n r hF
end Go.Proofs.YtcidnoghoifmmaaDoor
end
