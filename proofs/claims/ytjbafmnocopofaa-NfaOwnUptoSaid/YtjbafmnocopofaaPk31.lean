/-
  Texts of this proof, put together: FwS1, FwS2, FwS3, FwS4, FwRow2, FwS6, FwS7, FwS8, FwRd, FwKl, Ty, Rd, D0, D1.
-/
import Derived.Test.YtjbafmnocopofaaFwT3
import Derived.Test.YtjbafmnocopofaaFwRow
import Derived.Test.YtjbafmnocopofaaRows
import Derived.Deep.Slices
import Derived.Deep.DeepHandedRow
import Derived.Lib.LaidTab
import Derived.KernelRfl
set_option linter.unusedSimpArgs false
set_option linter.unusedVariables false
section
namespace Go.Proofs.Ytjbafmnocopofaa.AW
open Go

abbrev PH := Nat → Option AObj
abbrev Asn := PH → Prop
def PH.dj (a b : PH) : Prop := ∀ i, a i = none ∨ b i = none
def PH.or (a b : PH) : PH := fun i => match a i with | some x => some x | none => b i
def starL : List Asn → Asn
  | [], _ => True
  | P :: L, h => ∃ a b : PH, P a ∧ starL L b ∧ PH.dj a b ∧ ∀ i, h i = PH.or a b i
def SH (st : Store) (L : List Asn) : Prop := starL L (fun i => st[i]?)
def pt (id : Nat) (o : AObj) : Asn := fun h => ∀ i, h i = if i = id then some o else none
def emp : Asn := fun h => ∀ i, h i = none

theorem PH.or_l {a b : PH} {i : Nat} {x : AObj} (h : a i = some x) : PH.or a b i = some x := by simp only [PH.or, h]
theorem PH.or_r {a b : PH} {i : Nat} (h : a i = none) : PH.or a b i = b i := by simp only [PH.or, h]
theorem PH.or_none {a b : PH} {i : Nat} : PH.or a b i = none ↔ a i = none ∧ b i = none := by
  cases h : a i with
  | none => simp [PH.or, h]
  | some x => simp [PH.or, h]
theorem PH.dj.symm {a b : PH} (h : PH.dj a b) : PH.dj b a := fun i => (h i).symm
theorem PH.or_comm {a b : PH} (h : PH.dj a b) (i : Nat) : PH.or a b i = PH.or b a i := by
  rcases h i with e | e
  · rw [PH.or_r e]
    cases h2 : b i with
    | none => exact (PH.or_none.2 ⟨h2, e⟩).symm
    | some x => exact (PH.or_l h2).symm
  rw [PH.or_r e]
  cases h2 : a i with
  | none => exact PH.or_none.2 ⟨h2, e⟩
  | some x => exact PH.or_l h2
theorem PH.or_assoc (a b c : PH) (i : Nat) : PH.or (PH.or a b) c i = PH.or a (PH.or b c) i := by
  cases h : a i with
  | none =>
    rw [PH.or_r h]
    cases h2 : b i with
    | none => rw [PH.or_r (PH.or_none.2 ⟨h, h2⟩), PH.or_r h2]
    | some x => rw [PH.or_l (x := x) (by rw [PH.or_r h]; exact h2), PH.or_l h2]
  | some x => rw [PH.or_l (x := x) (PH.or_l h), PH.or_l h]
theorem PH.dj_or {a b c : PH} : PH.dj a (PH.or b c) ↔ PH.dj a b ∧ PH.dj a c := by
  constructor
  · intro h
    refine ⟨fun i => ?_, fun i => ?_⟩
    · rcases h i with e | e
      · exact .inl e
      exact .inr (PH.or_none.1 e).1
    rcases h i with e | e
    · exact .inl e
    exact .inr (PH.or_none.1 e).2
  intro ⟨h1, h2⟩ i
  rcases h1 i with e | e
  · exact .inl e
  rcases h2 i with e' | e'
  · exact .inl e'
  exact .inr (PH.or_none.2 ⟨e, e'⟩)
theorem starL_congr : ∀ {L : List Asn} {h h' : PH}, (∀ i, h i = h' i) → starL L h → starL L h'
  | [], _, _, _, _ => trivial
  | P :: L, h, h', e, ⟨a, b, h1, h2, h3, h4⟩ => ⟨a, b, h1, h2, h3, fun i => (e i).symm.trans (h4 i)⟩
theorem starL_mono : ∀ {L : List Asn} {a b : PH}, PH.dj a b → starL L a → starL L (PH.or a b)
  | [], _, _, _, _ => trivial
  | P :: L, a, b, hd, ⟨p, q, h1, h2, h3, h4⟩ => by
    have hq : PH.dj p b ∧ PH.dj q b := by
      refine ⟨fun i => ?_, fun i => ?_⟩
      · rcases hd i with e | e
        · rw [h4 i] at e; exact .inl (PH.or_none.1 e).1
        exact .inr e
      rcases hd i with e | e
      · rw [h4 i] at e; exact .inl (PH.or_none.1 e).2
      exact .inr e
    refine ⟨p, PH.or q b, h1, starL_mono hq.2 h2, PH.dj_or.2 ⟨h3, hq.1⟩, fun i => ?_⟩
    rw [← PH.or_assoc]
    simp only [PH.or, h4 i]
theorem starL_at : ∀ {j : Nat} {L : List Asn} {h : PH} {P : Asn}, L[j]? = some P → starL L h → ∃ a b, P a ∧ starL (L.eraseIdx j) b ∧ PH.dj a b ∧ ∀ i, h i = PH.or a b i
  | _, [], _, _, hj, _ => by simp at hj
  | 0, Q :: L, h, P, hj, ⟨a, b, h1, h2, h3, h4⟩ => by
    simp at hj; subst hj
    exact ⟨a, b, h1, h2, h3, h4⟩
  | j + 1, Q :: L, h, P, hj, ⟨a, b, h1, h2, h3, h4⟩ => by
    simp at hj
    obtain ⟨p, q, k1, k2, k3, k4⟩ := starL_at hj h2
    have hap : PH.dj a p ∧ PH.dj a q := PH.dj_or.1 (fun i => by rw [← k4 i]; exact h3 i)
    refine ⟨p, PH.or a q, k1, ⟨a, q, h1, k2, hap.2, fun i => rfl⟩, PH.dj_or.2 ⟨hap.1.symm, k3⟩, fun i => ?_⟩
    rw [h4 i, ← PH.or_assoc]
    have e1 : PH.or a b i = PH.or a (PH.or p q) i := by simp only [PH.or, k4 i]
    rw [e1, ← PH.or_assoc]
    have e2 := PH.or_comm hap.1 i
    simp only [PH.or] at e2 ⊢
    rw [e2]
theorem starL_put : ∀ {j : Nat} {L : List Asn} {a b : PH} {P : Asn}, j < L.length → P a → starL (L.eraseIdx j) b → PH.dj a b → starL (L.set j P) (PH.or a b)
  | _, [], _, _, _, hj, _, _, _ => by simp at hj
  | 0, Q :: L, a, b, P, _, hp, hl, hd => ⟨a, b, hp, hl, hd, fun _ => rfl⟩
  | j + 1, Q :: L, a, b, P, hj, hp, ⟨p, q, h1, h2, h3, h4⟩, hd => by
    have hap : PH.dj a p ∧ PH.dj a q := PH.dj_or.1 (fun i => by rw [← h4 i]; exact hd i)
    have hj' : j < L.length := by simpa using hj
    refine ⟨p, PH.or a q, h1, starL_put hj' hp h2 hap.2, PH.dj_or.2 ⟨hap.1.symm, h3⟩, fun i => ?_⟩
    have e1 : PH.or a b i = PH.or a (PH.or p q) i := by simp only [PH.or, h4 i]
    rw [e1, ← PH.or_assoc, ← PH.or_assoc]
    have e2 := PH.or_comm hap.1 i
    simp only [PH.or] at e2 ⊢
    rw [e2]
def Asn.T : Asn := fun _ => True
theorem starL_pull {j : Nat} {L : List Asn} {h : PH} (hs : starL L h) : starL (L.getD j Asn.T :: L.eraseIdx j) h := by
  cases hj : L[j]? with
  | none =>
    have e : L.getD j Asn.T = Asn.T := by simp [List.getD, hj]
    rw [e, List.eraseIdx_of_length_le (by simpa using hj)]
    exact ⟨fun _ => none, h, trivial, hs, fun i => .inl rfl, fun i => (PH.or_r rfl).symm⟩
  | some P =>
    have e : L.getD j Asn.T = P := by simp [List.getD, hj]
    rw [e]
    obtain ⟨a, b, h1, h2, h3, h4⟩ := starL_at hj hs
    exact ⟨a, b, h1, h2, h3, h4⟩
theorem starL_app : ∀ {A B : List Asn} {h : PH}, starL (A ++ B) h ↔ ∃ a b, starL A a ∧ starL B b ∧ PH.dj a b ∧ ∀ i, h i = PH.or a b i
  | [], B, h => ⟨fun hs => ⟨fun _ => none, h, trivial, hs, fun i => .inl rfl, fun i => (PH.or_r rfl).symm⟩, fun ⟨a, b, _, h2, h3, h4⟩ => starL_congr (fun i => ((h4 i).trans (PH.or_comm h3 i)).symm) (starL_mono h3.symm h2)⟩
  | P :: A, B, h => by
    constructor
    · rintro ⟨p, q, h1, h2, h3, h4⟩
      obtain ⟨a, b, k1, k2, k3, k4⟩ := starL_app.1 h2
      have hp : PH.dj p a ∧ PH.dj p b := PH.dj_or.1 (fun i => by rw [← k4 i]; exact h3 i)
      refine ⟨PH.or p a, b, ⟨p, a, h1, k1, hp.1, fun _ => rfl⟩, k2, (PH.dj_or.2 ⟨hp.2.symm, k3.symm⟩).symm, fun i => ?_⟩
      rw [h4 i, PH.or_assoc]
      simp only [PH.or, k4 i]
    rintro ⟨a, b, ⟨p, q, h1, h2, h3, h4⟩, k2, k3, k4⟩
    have hp : PH.dj b p ∧ PH.dj b q := PH.dj_or.1 (fun i => by rw [← h4 i]; exact k3.symm i)
    refine ⟨p, PH.or q b, h1, starL_app.2 ⟨q, b, h2, k2, hp.2.symm, fun _ => rfl⟩, PH.dj_or.2 ⟨h3, hp.1.symm⟩, fun i => ?_⟩
    rw [k4 i, ← PH.or_assoc]
    simp only [PH.or, h4 i]
section
variable {st st' : Store} {L : List Asn} {id j : Nat} {o : AObj}

theorem SH.nil : SH st [] := trivial
theorem SH.g (hs : SH st L) (j : Nat) (hj : L[j]? = some (pt id o)) : st[id]? = some o := by
  obtain ⟨a, b, h1, h2, h3, h4⟩ := starL_at hj hs
  have := h4 id
  rw [this]
  exact PH.or_l (by rw [h1 id, if_pos rfl])
theorem SH.upd {P P' : Asn} (hs : SH st L) (hj : L[j]? = some P) (h : ∀ a b : PH, P a → PH.dj a b → (∀ i, st[i]? = PH.or a b i) → ∃ a', P' a' ∧ PH.dj a' b ∧ ∀ i, st'[i]? = PH.or a' b i) : SH st' (L.set j P') := by
  obtain ⟨a, b, h1, h2, h3, h4⟩ := starL_at hj hs
  obtain ⟨a', k1, k2, k3⟩ := h a b h1 h3 h4
  exact starL_congr (fun i => (k3 i).symm) (starL_put (List.getElem?_eq_some_iff.1 hj).1 k1 h2 k2)
theorem SH.set (hs : SH st L) (hj : L[j]? = some (pt id o)) (o' : AObj) : SH (st.set id o') (L.set j (pt id o')) := by
  have hid : id < st.length := (List.getElem?_eq_some_iff.1 (hs.g j hj)).1
  refine hs.upd hj fun a b ha hd he => ⟨fun i => if i = id then some o' else none, fun _ => rfl, fun i => ?_, fun i => ?_⟩
  · by_cases hi : i = id
    · right
      rcases hd i with e | e
      · rw [ha i, if_pos hi] at e; cases e
      exact e
    exact .inl (if_neg hi)
  by_cases hi : i = id
  · subst hi
    rw [List.getElem?_set_self hid, PH.or_l (a := fun j => if j = i then some o' else none) (x := o') (if_pos rfl)]
  rw [List.getElem?_set_ne (Ne.symm hi), he i, PH.or_r (a := fun i => if i = id then some o' else none) (if_neg hi), PH.or_r (by rw [ha i, if_neg hi])]
def setL : List Asn → Nat → Asn → Option (List Asn)
  | [], _, _ => none
  | a :: L, j, P => match j with
    | 0 => some (P :: L)
    | j + 1 => match setL L j P with
      | some L' => some (a :: L')
      | none => none
theorem setL_eq : ∀ {L : List Asn} {j : Nat} {P : Asn} {L' : List Asn}, setL L j P = some L' → L' = L.set j P
  | [], _, _, _, h => by simp [setL] at h
  | a :: L, 0, P, L', h => by simp only [setL] at h; cases h; rfl
  | a :: L, j + 1, P, L', h => by
    simp only [setL] at h
    split at h
    · rename_i L2 h2; cases h; rw [List.set_cons_succ, setL_eq h2]
    cases h
def outL : List Asn → Nat → Option (Asn × List Asn)
  | [], _ => none
  | a :: L, j => match j with
    | 0 => some (a, L)
    | j + 1 => match outL L j with
      | some z => match z with
        | (P, L') => some (P, a :: L')
      | none => none
theorem outL_eq : ∀ {L : List Asn} {j : Nat} {P : Asn} {L' : List Asn}, outL L j = some (P, L') → L.getD j Asn.T = P ∧ L.eraseIdx j = L'
  | [], _, _, _, h => by simp [outL] at h
  | a :: L, 0, P, L', h => by simp only [outL] at h; cases h; exact ⟨rfl, rfl⟩
  | a :: L, j + 1, P, L', h => by
    simp only [outL] at h
    split at h
    · rename_i z h2
      obtain ⟨P2, L2⟩ := z
      cases h
      obtain ⟨h3, h4⟩ := outL_eq h2
      exact ⟨h3, by rw [List.eraseIdx_cons_succ, h4]⟩
    cases h
def pickL : Nat → List Nat → List Asn → Option (List Asn)
  | 0, js, L => match js with
    | [] => some L
    | _ :: _ => none
  | n + 1, js, L => match js with
    | [] => match L with
      | [] => none
      | _ :: L => pickL n [] L
    | j :: js => match outL L j with
      | some z => match z with
        | (P, L') => match pickL n js L' with
          | some L2 => some (P :: L2)
          | none => none
      | none => none
theorem SH.new {P : Asn} {a : PH} (hs : SH st L) (hp : P a) (hd : ∀ i, i < st.length → a i = none) (hg : ∀ i, st.length ≤ i → st'[i]? = a i) (hl : ∀ i, i < st.length → st'[i]? = st[i]?) : SH st' (P :: L) := by
  refine ⟨a, fun i => st[i]?, hp, hs, fun i => ?_, fun i => ?_⟩
  · rcases Nat.lt_or_ge i st.length with h | h
    · exact .inl (hd i h)
    exact .inr (List.getElem?_eq_none h)
  show st'[i]? = _
  rcases Nat.lt_or_ge i st.length with h | h
  · rw [hl i h, PH.or_r (hd i h)]
  rw [hg i h]
  cases e : a i with
  | none => rw [PH.or_r e]; exact (List.getElem?_eq_none h).symm
  | some x => exact (PH.or_l e).symm
theorem SH.push (hs : SH st L) (o : AObj) : SH (st ++ [o]) (pt st.length o :: L) := by
  refine hs.new (a := fun i => if i = st.length then some o else none) (fun _ => rfl) (fun i hi => if_neg (by omega)) (fun i hi => ?_) fun i hi => ?_
  · by_cases h : i = st.length
    · subst h; simp
    rw [if_neg h, List.getElem?_eq_none (by simp; omega)]
  rw [List.getElem?_append_left hi]
theorem SH.empt (hs : SH st L) {P : Asn} (hp : P (fun _ => none)) : SH st (P :: L) := ⟨fun _ => none, fun i => st[i]?, hp, hs, fun i => .inl rfl, fun i => (PH.or_r rfl).symm⟩
def ptU (n : Nat) : Nat → Nat → List Asn
  | 0, _ => []
  | m + 1, r => pt (n + r) .unborn :: ptU n m (r + 1)
theorem SH.unborn (hs : SH st L) (n : Nat) : SH (st ++ List.replicate n .unborn) (ptU st.length n 0 ++ L) := by
  have key : ∀ (m r : Nat) (h : PH), (∀ i, h i = if st.length + r ≤ i ∧ i < st.length + r + m then some .unborn else none) → starL (ptU st.length m r) h := by
    intro m
    induction m with
    | zero => intro r h _; trivial
    | succ m ih =>
      intro r h hh
      refine ⟨fun i => if i = st.length + r then some .unborn else none, fun i => if st.length + (r + 1) ≤ i ∧ i < st.length + (r + 1) + m then some .unborn else none, fun _ => rfl, ih (r + 1) _ fun _ => rfl, fun i => ?_, fun i => ?_⟩
      · by_cases e : i = st.length + r
        · exact .inr (if_neg (by omega))
        exact .inl (if_neg e)
      rw [hh i]
      by_cases e : i = st.length + r
      · rw [PH.or_l (a := fun i => if i = st.length + r then some .unborn else none) (x := .unborn) (if_pos e), if_pos (by omega)]
      rw [PH.or_r (a := fun i => if i = st.length + r then some .unborn else none) (if_neg e)]
      by_cases e2 : st.length + (r + 1) ≤ i ∧ i < st.length + (r + 1) + m
      · rw [if_pos e2, if_pos (by omega)]
      rw [if_neg e2, if_neg (by omega)]
  refine starL_app.2 ⟨fun i => if st.length + 0 ≤ i ∧ i < st.length + 0 + n then some .unborn else none, fun i => st[i]?, key n 0 _ fun _ => rfl, hs, fun i => ?_, fun i => ?_⟩
  · rcases Nat.lt_or_ge i st.length with h | h
    · exact .inl (if_neg (by omega))
    exact .inr (List.getElem?_eq_none h)
  show (st ++ List.replicate n .unborn)[i]? = _
  rcases Nat.lt_or_ge i st.length with h | h
  · rw [PH.or_r (a := fun i => if st.length + 0 ≤ i ∧ i < st.length + 0 + n then some .unborn else none) (if_neg (by omega)), List.getElem?_append_left h]
  by_cases e : i < st.length + n
  · rw [PH.or_l (a := fun i => if st.length + 0 ≤ i ∧ i < st.length + 0 + n then some .unborn else none) (x := .unborn) (if_pos (by omega)), List.getElem?_append_right h, List.getElem?_replicate, if_pos (by omega)]
  rw [PH.or_r (a := fun i => if st.length + 0 ≤ i ∧ i < st.length + 0 + n then some .unborn else none) (if_neg (by omega)), List.getElem?_eq_none (by simp; omega), List.getElem?_eq_none h]
end

theorem starL_tail {P : Asn} {L : List Asn} {h : PH} (hs : starL (P :: L) h) : starL L h := by
  obtain ⟨a, b, _, h2, h3, h4⟩ := hs
  exact starL_congr (fun i => by rw [h4 i]; exact (PH.or_comm h3 i).symm) (starL_mono h3.symm h2)
theorem starL_pick : ∀ {n : Nat} {js : List Nat} {L L' : List Asn} {h : PH}, pickL n js L = some L' → starL L h → starL L' h
  | 0, [], L, L', h, hp, hs => by simp only [pickL] at hp; cases hp; exact hs
  | 0, _ :: _, L, L', h, hp, hs => by simp [pickL] at hp
  | n + 1, [], [], L', h, hp, hs => by simp [pickL] at hp
  | n + 1, [], _ :: L, L', h, hp, hs => by
    simp only [pickL] at hp
    exact starL_pick hp (starL_tail hs)
  | n + 1, j :: js, L, L', h, hp, hs => by
    simp only [pickL] at hp
    split at hp
    · rename_i z hz
      obtain ⟨P, L1⟩ := z
      simp only at hp
      split at hp
      · rename_i L2 h2
        cases hp
        obtain ⟨rfl, rfl⟩ := outL_eq hz
        obtain ⟨a, b, k1, k2, k3, k4⟩ := starL_pull (j := j) hs
        exact ⟨a, b, k1, starL_pick h2 k2, k3, k4⟩
      cases hp
    cases hp
theorem SH.p {st : Store} {L L' : List Asn} (hs : SH st L) (n : Nat) (js : List Nat) (hp : pickL n js L = some L') : SH st L' := starL_pick hp hs
def ownV {α : Type} (es : Nat) (f : α → AV) (o : Sl α) (id : Nat) : AV := match o with
  | none => .nils
  | some l => .sl es (l.map f) (some id)
def ownA {α : Type} (id : Nat) (o : Sl α) : Asn := match o with
  | none => emp
  | some l => pt id (.tail l.length)
theorem rd_W {α : Type} {es : Nat} {f : α → AV} {o : Sl α} {id : Nat} {v : AV} (h : v = ownV es f o id) : RdV es f o v := by
  subst h
  cases o with
  | none => exact .inl ⟨rfl, rfl⟩
  | some l => exact .inr ⟨l, some id, rfl, rfl⟩
theorem own_strip {α : Type} {es : Nat} {f : α → AV} (hf : ∀ x, DS (f x) (f x)) {o : Sl α} {id : Nat} : (ownV es f o id).strip = slV es f o := rd_strip (fun x => (hf x).2) (rd_W rfl)
theorem own_data {α : Type} {es : Nat} {f : α → AV} (hf : ∀ x, DS (f x) (f x)) {o : Sl α} {id : Nat} : (ownV es f o id).data = true := rd_data (fun x => (hf x).1) (rd_W rfl)
theorem ds_own {α : Type} {es : Nat} {f : α → AV} (hf : ∀ x, DS (f x) (f x)) {o : Sl α} {id : Nat} : DS (ownV es f o id) (slV es f o) := ⟨own_data hf, own_strip hf⟩
theorem SH.ownNil {st : Store} {L : List Asn} (hs : SH st L) (α : Type) : SH st (ownA 0 (none : Sl α) :: L) := hs.empt fun _ => rfl
theorem SH.app {st : Store} {L : List Asn} {E : Glob} {tm : Fr} {x y : AX} {j : Nat} {α : Type} {es bytes : Nat} {f : α → AV} {o : Sl α} {id : Nat} {ys : List α} (hs : SH st L) (hj : L[j]? = some (ownA id o)) (hx : tm.x x = ownV es f o id)
    (hy : appElems es st (tm.x y) = some (ys.map f)) (hb : ((ls o).length + ys.length) * bytes ≤ 140737488355328) :
    ∃ id' st', evalAI E tm st (.app es bytes x y) = some (ownV es f (sapp o ys) id', st') ∧ SH st' (L.set j (ownA id' (sapp o ys))) := by
  simp only [ev_app, hy, obind_some, hx]
  cases o with
  | none =>
    cases ys with
    | nil =>
      refine ⟨id, st, rfl, ?_⟩
      have : L.set j (ownA id (sapp (none : Sl α) [])) = L := set_get_self _ _ _ hj
      rw [this]; exact hs
    | cons z zs =>
      simp only [ls_none, List.length_nil, Nat.zero_add] at hb
      refine ⟨st.length, st ++ [.tail (z :: zs).length], ?_, ?_⟩
      · simp only [ownV, appV, List.map_cons]
        rw [if_pos (by simpa using hb)]
        simp [sapp, ls]
      refine hs.upd hj fun a b ha hd he => ⟨fun i => if i = st.length then some (.tail (z :: zs).length) else none, fun _ => by simp [sapp, ls], fun i => ?_, fun i => ?_⟩
      · by_cases e : i = st.length
        · right
          have := he i
          rw [List.getElem?_eq_none (by omega)] at this
          exact (PH.or_none.1 this.symm).2
        exact .inl (if_neg e)
      by_cases e : i = st.length
      · rw [PH.or_l (a := fun i => if i = st.length then some (.tail (z :: zs).length) else none) (x := .tail (z :: zs).length) (if_pos e)]; subst e; simp
      rw [PH.or_r (a := fun i => if i = st.length then some (.tail (z :: zs).length) else none) (if_neg e)]
      have h1 := he i
      rw [PH.or_r (ha i)] at h1
      rw [← h1]
      rcases Nat.lt_or_ge i st.length with h | h
      · rw [List.getElem?_append_left h]
      rw [List.getElem?_eq_none (by simp; omega), List.getElem?_eq_none h]
  | some l =>
    have hg : st[id]? = some (.tail l.length) := hs.g j hj
    refine ⟨id, st.set id (.tail (l.length + ys.length)), ?_, ?_⟩
    · simp only [ownV, appV, hg, List.length_map]
      rw [if_pos ⟨trivial, trivial, hb⟩]
      simp [sapp, ls]
    have := SH.set (o' := .tail (l.length + ys.length)) hs hj
    have e : ownA id (sapp (some l) ys) = pt id (.tail (l.length + ys.length)) := by simp [sapp, ls, ownA]
    rw [e]; exact this
end Go.Proofs.Ytjbafmnocopofaa.AW
end
section
namespace Go.Proofs.Ytjbafmnocopofaa.AW
open Go

inductive KJ where
  | code (c : ACode)
  | ops (l : List AOp)
  | blk (id : Nat)
  | lp (b : ACode)

def wQ (X : Cx) : List KJ → AExit → Fr → Store → Prop
  | [] => X.fin
  | .code c :: k => thenQ (XS X.P X.E X.N X.mu c (wQ X k)) (wQ X k)
  | .ops l :: k => thenQ (fun tm st => xOps X.P X.E l (wQ X k .normal) tm st) (wQ X k)
  | .blk id :: k => blockQ id (wQ X k)
  | .lp b :: k => thenQ (XLoop X.P X.E X.N X.mu b (wQ X k)) (wQ X k)
def W (X : Cx) (k : List KJ) (tm : Fr) (st : Store) : Prop := wQ X k .normal tm st
def WD (X : Cx) (st0 : Store) (mr : Nat) (l : List AOp) (r : Nat) (suf : List AOp) (k : List KJ) (tm : Fr) (st : Store) : Prop :=
  lexQ X.P X.E st0 mr l r (sufK X.P X.E suf (wQ X k .normal)) tm st

def jdrop : List KJ → Nat → Option (List KJ)
  | [], _ => none
  | .blk id :: k, i => bif Nat.beq i id then some k else jdrop k i
  | _ :: k, i => jdrop k i

def intOpN (op : BinOp) (k : IntKind) (x : Int) (k' : IntKind) (y : Int) : Option AV :=
  match op with
  | .add => if k = k' then some (.int k (k.wrap (x + y))) else none
  | .sub => if k = k' then some (.int k (k.wrap (x - y))) else none
  | .mul => if k = k' then some (.int k (k.wrap (x * y))) else none
  | .and => if k = k' then some (.int k (andI k x y)) else none
  | .or => if k = k' then some (.int k (orI k x y)) else none
  | .xor => if k = k' then some (.int k (xorI k x y)) else none
  | .andNot => if k = k' then some (.int k (andNotI k x y)) else none
  | .eql => if k = k' then some (.bool (x == y)) else none
  | .neq => if k = k' then some (.bool (x != y)) else none
  | .lss => if k = k' then some (.bool (decide (x < y))) else none
  | .leq => if k = k' then some (.bool (decide (x ≤ y))) else none
  | .gtr => if k = k' then some (.bool (decide (x > y))) else none
  | .geq => if k = k' then some (.bool (decide (x ≥ y))) else none
  | _ => none
theorem intOpN_eq {op : BinOp} {k k' : IntKind} {x y : Int} {v : AV} (h : intOpN op k x k' y = some v) : intOp op k x k' y = some v := by
  cases op <;> simp only [intOpN] at h <;> first
    | (cases h; done)
    | simpa only [intOp, andI, orI, xorI, andNotI] using h
def strOpN (op : BinOp) (x y : List UInt8) : Option AV :=
  match op with
  | .eql => some (.bool (x == y))
  | .neq => some (.bool (!(x == y)))
  | .lss => some (.bool (Op.bytesLess x y))
  | .leq => some (.bool (Op.bytesLess x y || x == y))
  | .gtr => some (.bool (!(Op.bytesLess x y || x == y)))
  | .geq => some (.bool (!(Op.bytesLess x y)))
  | _ => none
theorem strOpN_eq {op : BinOp} {x y : Str} {v : AV} (h : strOpN op x y = some v) : strOp op x y = some v := by
  cases op <;> simp only [strOpN] at h <;> first
    | (cases h; done)
    | (cases h; rfl)
def pureI (i : AI) (tm : Fr) : Option AV :=
  match i with
  | .mv x => some (tm.x x)
  | .binI op x y => match tm.x x with
    | .int k a => match tm.x y with
      | .int k' b => intOpN op k a k' b
      | _ => none
    | _ => none
  | .binS op x y => match tm.x x with
    | .str a => match tm.x y with
      | .str b => strOpN op a b
      | _ => none
    | _ => none
  | .eqB neg x y => match tm.x x with
    | .bool a => match tm.x y with
      | .bool b => some (.bool (bif neg then !(a == b) else (a == b)))
      | _ => none
    | _ => none
  | .un op x => match op with
    | .neg => match tm.x x with
      | .int k n => some (.int k (k.wrap (0 - n)))
      | _ => none
    | .xor => match tm.x x with
      | .int k n => some (.int k (notI k n))
      | _ => none
    | .not => match tm.x x with
      | .bool b => some (.bool (!b))
      | _ => none
    | _ => none
  | .cvI k x => match tm.x x with
    | .int _ n => some (.int k (k.wrap n))
    | _ => none
  | .cvS x => match tm.x x with
    | .str s => some (.str s)
    | _ => none
  | .field1 off x => match tm.x x with
    | .agg cs => cs[off]?
    | _ => none
  | .extract x i => match tm.x x with
    | .tup vs => vs[i]?
    | _ => none
  | .lenS x => match tm.x x with
    | .str s => some (.int .i64 s.length)
    | _ => none
  | .lenA n => some (.int .i64 n)
  | .max l => match l with
    | [x, y] => match tm.x x with
      | .int k a => match tm.x y with
        | .int _ b => some (.int k (if b > a then b else a))
        | _ => none
      | _ => none
    | _ => none
  | .min l => match l with
    | [x, y] => match tm.x x with
      | .int k a => match tm.x y with
        | .int _ b => some (.int k (if b < a then b else a))
        | _ => none
      | _ => none
    | _ => none
  | .mkfn f caps => some (.fn f (caps.map tm.x))
  | _ => none

theorem pureI_still {i : AI} {tm : Fr} {v : AV} (h : pureI i tm = some v) : i.still = true := by
  cases i <;> simp only [pureI] at h <;> first
    | rfl
    | cases h
theorem pureI_eval {E : Glob} {st : Store} {i : AI} {tm : Fr} {v : AV} (h : pureI i tm = some v) : evalAI E tm st i = some (v, st) := by
  cases i <;> simp only [pureI] at h <;> try (cases h; done)
  case mv x => cases h; rfl
  case binI op x y =>
    split at h
    · split at h
      · rename_i k a hx _ k' b hy; exact e_bin hx hy (intOpN_eq h)
      cases h
    cases h
  case binS op x y =>
    split at h
    · split at h
      · rename_i a hx _ b hy; exact e_str hx hy (strOpN_eq h)
      cases h
    cases h
  case eqB neg x y =>
    split at h
    · split at h
      · rename_i a hx _ b hy
        cases h
        cases neg
        · exact e_eqB hx hy
        exact e_neB hx hy
      cases h
    cases h
  case un op x =>
    split at h
    · split at h
      · rename_i hx; cases h; exact e_neg hx
      cases h
    · split at h
      · rename_i hx; cases h; exact e_xorU hx
      cases h
    · split at h
      · rename_i hx; cases h; exact e_not hx
      cases h
    cases h
  case cvI k x =>
    split at h
    · rename_i k' n hx; cases h; exact e_cvI hx
    cases h
  case cvS x =>
    split at h
    · rename_i s hx; cases h; exact e_cvS hx
    cases h
  case field1 off x =>
    split at h
    · rename_i cs hx; simp only [ev_field1, hx, asG_is, h, obind_some]
    cases h
  case extract x n =>
    split at h
    · rename_i vs hx; exact e_extract hx h
    cases h
  case lenS x =>
    split at h
    · rename_i s hx; cases h; exact e_lenS hx
    cases h
  case lenA n => cases h; rfl
  case max l =>
    split at h
    · split at h
      · split at h
        · rename_i x y _ k a hx _ k' b hy; cases h; simp [evalAI, hx, hy, maxA]
        cases h
      cases h
    cases h
  case min l =>
    split at h
    · split at h
      · split at h
        · rename_i x y _ k a hx _ k' b hy; cases h; simp [evalAI, hx, hy, minA]
        cases h
      cases h
    cases h
  case mkfn f caps => cases h; rfl
def updL (tm : Fr) : List (Nat × AV) → Fr
  | [] => tm
  | (d, v) :: l => upd (updL tm l) d v
def look : List (Nat × AV) → Nat → Option AV
  | [], _ => none
  | (d, v) :: l, i => bif Nat.beq d i then some v else look l i
theorem look_eq {tm : Fr} : ∀ {l : List (Nat × AV)} {i : Nat} {v : AV}, look l i = some v → updL tm l i = v
  | [], i, v, h => by simp [look] at h
  | (d, w) :: l, i, v, h => by
    simp only [look] at h
    simp only [updL, upd]
    cases e : Nat.beq d i with
    | true => rw [e] at h; simpa using h
    | false => rw [e] at h; exact look_eq h
def Frm (tm : Fr) : List (Nat × AV) → Prop
  | [] => True
  | (d, v) :: l => tm d = v ∧ Frm tm l
theorem Frm.eq {tm : Fr} : ∀ {l : List (Nat × AV)}, Frm tm l → updL tm l = tm
  | [], _ => rfl
  | (d, v) :: l, ⟨h1, h2⟩ => by
    simp only [updL, Frm.eq h2]
    funext i
    unfold upd
    cases e : Nat.beq d i with
    | false => rfl
    | true => rw [← Nat.eq_of_beq_eq_true e]; exact h1.symm
def fi : List AV → Nat → List (Nat × AV)
  | [], _ => []
  | a :: l, n => (n, a) :: fi l (n + 1)
theorem fi_at {tm : Fr} : ∀ (ds : List AV) (n i : Nat), updL tm (fi ds n) i = if n ≤ i then (match ds[i - n]? with | some v => v | none => tm i) else tm i
  | [], n, i => by simp [fi, updL]
  | a :: l, n, i => by
    simp only [fi, updL, upd]
    cases e : Nat.beq n i with
    | true =>
      have := Nat.eq_of_beq_eq_true e
      subst this
      simp
    | false =>
      have hne : n ≠ i := fun e' => by rw [e', Nat.beq_refl] at e; cases e
      rw [cond_false, fi_at l (n + 1) i]
      by_cases h : n + 1 ≤ i
      · rw [if_pos h, if_pos (by omega)]
        have : i - n = (i - (n + 1)) + 1 := by omega
        rw [this, List.getElem?_cons_succ]
      rw [if_neg h, if_neg (by omega)]
theorem fi_init (ds : List AV) : frInit ds = updL (fun _ => .tup []) (fi ds 0) := by
  funext i
  rw [fi_at]
  simp only [Nat.zero_le, if_true, Nat.sub_zero, frInit]
  cases ds[i]? <;> rfl
def lookX (fr : List (Nat × AV)) : AX → Option AV
  | .t n => look fr n
  | .c v => some v
theorem lookX_eq {tm : Fr} {fr : List (Nat × AV)} {x : AX} {v : AV} (h : lookX fr x = some v) : (updL tm fr).x x = v := by
  cases x with
  | t n => exact look_eq h
  | c w => simp only [lookX] at h; cases h; rfl
def stepV (tm : Fr) (i : AI) (fr : List (Nat × AV)) : Option AV :=
  match i with
  | .mv x => lookX fr x
  | .pick c a b => match lookX fr c with
    | some v => match v with
      | .bool t => match t with
        | true => lookX fr a
        | false => lookX fr b
      | _ => none
    | none => none
  | i => pureI i (updL tm fr)
theorem stepV_still {tm : Fr} {i : AI} {fr : List (Nat × AV)} {v : AV} (h : stepV tm i fr = some v) : i.still = true := by
  cases i <;> first
    | rfl
    | exact pureI_still (tm := updL tm fr) h
theorem stepV_eval {E : Glob} {st : Store} {tm : Fr} {i : AI} {fr : List (Nat × AV)} {v : AV} (h : stepV tm i fr = some v) : evalAI E (updL tm fr) st i = some (v, st) := by
  cases i <;> try exact pureI_eval (tm := updL tm fr) h
  case mv x => exact e_mv' (lookX_eq h)
  case pick c a b =>
    simp only [stepV] at h
    split at h
    · rename_i w hw
      split at h
      · rename_i t
        cases t with
        | true => exact e_pick_t (lookX_eq hw) rfl (lookX_eq h)
        | false => exact e_pick_f (lookX_eq hw) rfl (lookX_eq h)
      cases h
    cases h
def isTrue? (v : Option AV) : Option (Option Bool) :=
  match v with
  | some w => match w with
    | .bool t => match t with
      | true => some (some true)
      | false => some (some false)
    | .tup vs => match vs with
      | [] => some none
      | _ :: _ => none
    | _ => none
  | none => none
def stepF (w : Bool) (tm : Fr) (o : AOp) (fr : List (Nat × AV)) : Option (List (Nat × AV)) :=
  match o.dst with
  | none => none
  | some d => match o.guard with
    | some (g, b) => match isTrue? (look fr g) with
      | some z => match z with
        | none => bif w || Nat.beq (bornN ⟨some d, none, o.ins⟩) 0 then some ((d, .tup []) :: fr) else none
        | some t => match t == b with
          | true => match o.ins with
            | .plain i => match stepV tm i fr with
              | some v => some ((d, v) :: fr)
              | none => none
            | _ => none
          | false => bif w || Nat.beq (bornN ⟨some d, none, o.ins⟩) 0 then some ((d, .tup []) :: fr) else none
      | none => none
    | none => match o.ins with
      | .plain i => match stepV tm i fr with
        | some v => some ((d, v) :: fr)
        | none => none
      | _ => none
def runK (tm : Fr) : Nat → Nat → List KJ → List (Nat × AV) → Option (List KJ × List (Nat × AV))
  | 0, _, _, _ => none
  | n + 1, c, k, fr => match k with
    | [] => some ([], fr)
    | .lp b :: k => some (.lp b :: k, fr)
    | .blk _ :: k => runK tm n c k fr
    | .code x :: k => match x with
      | .seq a b => runK tm n c (.code a :: .code b :: k) fr
      | .skip => runK tm n c k fr
      | .ops l => runK tm n c (.ops l :: k) fr
      | .block i b => runK tm n c (.code b :: .blk i :: k) fr
      | .loop b => some (.lp b :: k, fr)
      | .exit i => match jdrop k i with
        | some k' => runK tm n c k' fr
        | none => none
      | .cond z a b => some (.code (.cond z a b) :: k, fr)
      | .ret => some (.code .ret :: k, fr)
      | .draw s m b q u => some (.code (.draw s m b q u) :: k, fr)
      | .range z p a b => some (.code (.range z p a b) :: k, fr)
    | .ops l :: k => match l with
      | [] => runK tm n c k fr
      | o :: l => match c with
        | 0 => some (.ops (o :: l) :: k, fr)
        | c + 1 => match stepF true tm o fr with
          | some fr' => runK tm n c (.ops l :: k) fr'
          | none => none

section
variable {X : Cx} {k k' : List KJ} {tm tm' : Fr} {st : Store}

theorem W.code {c : ACode} : W X (.code c :: k) tm st ↔ XS X.P X.E X.N X.mu c (wQ X k) tm st := by simp only [W, wQ, thenQ_normal]
theorem W.ops {l : List AOp} : W X (.ops l :: k) tm st ↔ xOps X.P X.E l (wQ X k .normal) tm st := by simp only [W, wQ, thenQ_normal]
theorem W.lp {b : ACode} : W X (.lp b :: k) tm st ↔ XLoop X.P X.E X.N X.mu b (wQ X k) tm st := by simp only [W, wQ, thenQ_normal]
theorem W.blk {i : Nat} : W X (.blk i :: k) tm st ↔ W X k tm st := by simp only [W, wQ, blockQ_normal]
theorem W.exit {i : Nat} : ∀ {k : List KJ}, jdrop k i = some k' → W X k' tm st → wQ X k (.exit i) tm st
  | [], h, _ => by simp [jdrop] at h
  | .code c :: k, h, hn => by
    simp only [jdrop] at h
    simp only [wQ, thenQ_exit]; exact W.exit h hn
  | .ops c :: k, h, hn => by
    simp only [jdrop] at h
    simp only [wQ, thenQ_exit]; exact W.exit h hn
  | .lp c :: k, h, hn => by
    simp only [jdrop] at h
    simp only [wQ, thenQ_exit]; exact W.exit h hn
  | .blk id :: k, h, hn => by
    simp only [jdrop] at h
    simp only [wQ, blockQ]
    by_cases e : i = id
    · subst e
      have : Nat.beq i i = true := Nat.beq_refl i
      rw [this] at h
      cases h
      rw [if_pos rfl]; exact hn
    have : Nat.beq i id = false := by cases e' : Nat.beq i id with
      | false => rfl
      | true => exact absurd (Nat.eq_of_beq_eq_true e') e
    rw [this] at h
    rw [if_neg e]
    exact W.exit h hn
theorem wQ_ret (tm : Fr) (st : Store) : ∀ k, wQ X k .ret tm st = X.fin .ret tm st
  | [] => rfl
  | .code c :: k => by simp only [wQ, thenQ_ret, wQ_ret tm st k]
  | .ops c :: k => by simp only [wQ, thenQ_ret, wQ_ret tm st k]
  | .blk id :: k => by simp only [wQ, blockQ_ret, wQ_ret tm st k]
  | .lp b :: k => by simp only [wQ, thenQ_ret, wQ_ret tm st k]
theorem W.po {i : AI} {v : AV} {st' : Store} {l : List AOp} {d : Nat} (h : evalAI X.E tm st i = some (v, st')) (hk : W X (.ops l :: k) (upd tm d v) st') : W X (.ops (⟨.some d, .none, .plain i⟩ :: l) :: k) tm st := by
  rw [W.ops] at hk ⊢
  simp only [xOps_plain, h, XO_some, put_upd]; exact hk
theorem W.o0 {i : AI} {v : AV} {st' : Store} {l : List AOp} (h : evalAI X.E tm st i = some (v, st')) (hk : W X (.ops l :: k) tm st') : W X (.ops (⟨.none, .none, .plain i⟩ :: l) :: k) tm st := by
  rw [W.ops] at hk ⊢
  simp only [xOps_plain, h, XO_some, put_none]; exact hk
theorem W.poff' {g : Nat} {b : Bool} {i : AK} {l : List AOp} {d : Nat} {vs : List AV} (hg : tm g = .tup vs) (hk : W X (.ops l :: k) (upd tm d (.tup [])) st) : W X (.ops (⟨.some d, .some (g, b), i⟩ :: l) :: k) tm st := by
  rw [W.ops] at hk ⊢
  simp only [xOps_guard, hg, XG_tup, put_upd]; exact hk
theorem W.poff {g : Nat} {b t : Bool} {i : AK} {l : List AOp} {d : Nat} (hg : tm g = .bool t) (ht : t = !b) (hk : W X (.ops l :: k) (upd tm d (.tup [])) st) : W X (.ops (⟨.some d, .some (g, b), i⟩ :: l) :: k) tm st := by
  subst ht
  rw [W.ops] at hk ⊢
  cases b
  · simp only [xOps_guard, hg, Bool.not_false, XG_tf, put_upd]; exact hk
  simp only [xOps_guard, hg, Bool.not_true, XG_ft, put_upd]; exact hk
theorem W.on {d : Option Nat} {g : Nat} {b t : Bool} {i : AK} {l : List AOp} (hg : tm g = .bool t) (ht : t = b) (hk : W X (.ops (⟨d, .none, i⟩ :: l) :: k) tm st) : W X (.ops (⟨d, .some (g, b), i⟩ :: l) :: k) tm st := by
  subst ht
  rw [W.ops] at hk ⊢
  simp only [xOps_guard, hg, XG_run]; exact hk
variable {fr : List (Nat × AV)}
theorem W.o {i : AI} {v : AV} {st' : Store} {l : List AOp} {d : Nat} (h : evalAI X.E (updL tm fr) st i = some (v, st')) (hk : W X (.ops l :: k) (updL tm ((d, v) :: fr)) st') : W X (.ops (⟨.some d, .none, .plain i⟩ :: l) :: k) (updL tm fr) st := W.po h hk
theorem W.off {g : Nat} {b t : Bool} {i : AK} {l : List AOp} {d : Nat} (hg : updL tm fr g = .bool t) (ht : t = !b) (hk : W X (.ops l :: k) (updL tm ((d, .tup []) :: fr)) st) : W X (.ops (⟨.some d, .some (g, b), i⟩ :: l) :: k) (updL tm fr) st := W.poff hg ht hk
theorem isTrue_bool {v : Option AV} {t : Bool} (h : isTrue? v = some (some t)) : v = some (.bool t) := by
  unfold isTrue? at h
  split at h
  · split at h
    · rename_i t'
      cases t' <;> simp at h <;> subst h <;> rfl
    · split at h <;> simp at h
    cases h
  cases h
theorem isTrue_tup {v : Option AV} (h : isTrue? v = some none) : v = some (.tup []) := by
  unfold isTrue? at h
  split at h
  · split at h
    · rename_i t'
      cases t' <;> simp at h
    · split at h
      · rfl
      cases h
    cases h
  cases h
theorem stepF_cases {w : Bool} {tm : Fr} {o : AOp} {fr fr' : List (Nat × AV)} (h : stepF w tm o fr = some fr') : ∃ d v, fr' = (d, v) :: fr ∧
    ((∃ g b i, o = ⟨some d, some (g, b), i⟩ ∧ v = .tup [] ∧ (updL tm fr g = .tup [] ∨ updL tm fr g = .bool (!b)) ∧ (w = true ∨ bornN ⟨some d, none, i⟩ = 0)) ∨ (∃ g b i, o = ⟨some d, some (g, b), .plain i⟩ ∧ updL tm fr g = .bool b ∧ stepV tm i fr = some v) ∨ ∃ i, o = ⟨some d, none, .plain i⟩ ∧ stepV tm i fr = some v) := by
  obtain ⟨d, g, i⟩ := o
  cases d with
  | none => simp [stepF] at h
  | some d =>
    cases g with
    | some gb =>
      obtain ⟨g, b⟩ := gb
      simp only [stepF] at h
      split at h
      · rename_i z hw
        cases z with
        | none =>
          simp only [cond_eq_ite] at h
          split at h
          · rename_i hb
            cases h
            exact ⟨d, _, rfl, .inl ⟨g, b, i, rfl, rfl, .inl (look_eq (isTrue_tup hw)), by simpa using hb⟩⟩
          cases h
        | some t =>
          have hl := look_eq (tm := tm) (isTrue_bool hw)
          simp only at h
          split at h
          · rename_i e
            have e : t = b := by simpa using e
            subst e
            cases i with
            | call f xs => cases h
            | callv f xs => cases h
            | plain i =>
              simp only at h
              split at h
              · rename_i v hv
                cases h
                exact ⟨d, v, rfl, .inr (.inl ⟨g, t, i, rfl, hl, hv⟩)⟩
              cases h
          rename_i e
          have e : t = !b := by cases t <;> cases b <;> simp_all
          simp only [cond_eq_ite] at h
          split at h
          · rename_i hb
            cases h
            exact ⟨d, _, rfl, .inl ⟨g, b, i, rfl, rfl, .inr (by rw [hl, e]), by simpa using hb⟩⟩
          cases h
      cases h
    | none =>
      cases i with
      | call f xs => simp [stepF] at h
      | callv f xs => simp [stepF] at h
      | plain i =>
        simp only [stepF] at h
        split at h
        · rename_i v hv
          cases h
          exact ⟨d, v, rfl, .inr (.inr ⟨i, rfl, hv⟩)⟩
        cases h
theorem stepF_sound {o : AOp} {l : List AOp} {fr fr' : List (Nat × AV)} (h : stepF true tm o fr = some fr') (hk : W X (.ops l :: k) (updL tm fr') st) : W X (.ops (o :: l) :: k) (updL tm fr) st := by
  obtain ⟨d, v, rfl, hc⟩ := stepF_cases h
  rcases hc with ⟨g, b, i, rfl, rfl, hg | hg, _⟩ | ⟨g, b, i, rfl, hg, hv⟩ | ⟨i, rfl, hv⟩
  · exact W.poff' hg hk
  · exact W.off hg rfl hk
  · exact W.on hg rfl (W.o (stepV_eval hv) hk)
  exact W.o (stepV_eval hv) hk
theorem runK_sound : ∀ (n c : Nat) (k : List KJ) (fr : List (Nat × AV)) (k' : List KJ) (fr' : List (Nat × AV)), runK tm n c k fr = some (k', fr') → W X k' (updL tm fr') st → W X k (updL tm fr) st
  | 0, c, k, fr, k', fr', h, _ => by simp [runK] at h
  | n + 1, c, [], fr, k', fr', h, hk => by simp only [runK] at h; cases h; exact hk
  | n + 1, c, .lp b :: k, fr, k', fr', h, hk => by simp only [runK] at h; cases h; exact hk
  | n + 1, c, .blk i :: k, fr, k', fr', h, hk => by
    simp only [runK] at h
    exact W.blk.2 (runK_sound n c k fr k' fr' h hk)
  | n + 1, c, .code x :: k, fr, k', fr', h, hk => by
    cases x <;> simp only [runK] at h
    case seq a b =>
      have := runK_sound n c _ fr k' fr' h hk
      rw [W.code] at this ⊢
      exact XS.seq this
    case skip =>
      rw [W.code]
      exact XS.of (by rw [xCode_skip]; exact runK_sound n c _ fr k' fr' h hk)
    case ops l =>
      have := runK_sound n c _ fr k' fr' h hk
      rw [W.ops] at this
      rw [W.code]
      exact XS.of (by rw [xCode_ops]; exact this)
    case block i b =>
      have := runK_sound n c _ fr k' fr' h hk
      rw [W.code] at this ⊢
      exact XS.block this
    case loop b =>
      cases h
      rw [W.lp] at hk
      rw [W.code]
      exact XS.of (by rw [xCode_loop]; exact hk)
    case exit i =>
      split at h
      · rename_i k2 h2
        rw [W.code]
        exact XS.of (by rw [xCode_exit]; exact W.exit h2 (runK_sound n c k2 fr k' fr' h hk))
      cases h
    case cond z a b => cases h; exact hk
    case ret => cases h; exact hk
    case draw s m b q u => cases h; exact hk
    case range z p a b => cases h; exact hk
  | n + 1, c, .ops [] :: k, fr, k', fr', h, hk => by
    simp only [runK] at h
    rw [W.ops, xOps_nil]
    exact runK_sound n c k fr k' fr' h hk
  | n + 1, 0, .ops (o :: l) :: k, fr, k', fr', h, hk => by simp only [runK] at h; cases h; exact hk
  | n + 1, c + 1, .ops (o :: l) :: k, fr, k', fr', h, hk => by
    simp only [runK] at h
    split at h
    · rename_i fr2 h2
      exact stepF_sound h2 (runK_sound n c _ _ k' fr' h hk)
    cases h
theorem rn (c : Nat) {fr' : List (Nat × AV)} (h : runK tm 400 c k fr = some (k', fr')) (hk : W X k' (updL tm fr') st) : W X k (updL tm fr) st := runK_sound 400 c k fr k' fr' h hk
def ctl : Nat → List KJ → Option (List KJ)
  | 0, k => some k
  | m + 1, k => match k with
    | .blk _ :: k => ctl m k
    | .ops l :: k => match l with
      | [] => ctl m k
      | _ :: _ => none
    | .code x :: k => match x with
      | .seq a b => ctl m (.code a :: .code b :: k)
      | .skip => ctl m k
      | .ops l => ctl m (.ops l :: k)
      | .block i b => ctl m (.code b :: .blk i :: k)
      | .exit i => match jdrop k i with
        | some k' => ctl m k'
        | none => none
      | _ => none
    | _ => none
theorem ctl_sound : ∀ (m : Nat) (k : List KJ) (k' : List KJ), ctl m k = some k' → W X k' tm st → W X k tm st
  | 0, k, k', h, hk => by simp only [ctl] at h; cases h; exact hk
  | m + 1, [], k', h, hk => by simp [ctl] at h
  | m + 1, .lp b :: k, k', h, hk => by simp [ctl] at h
  | m + 1, .blk i :: k, k', h, hk => by
    simp only [ctl] at h
    exact W.blk.2 (ctl_sound m k k' h hk)
  | m + 1, .ops [] :: k, k', h, hk => by
    simp only [ctl] at h
    rw [W.ops, xOps_nil]
    exact ctl_sound m k k' h hk
  | m + 1, .ops (_ :: _) :: k, k', h, hk => by simp [ctl] at h
  | m + 1, .code x :: k, k', h, hk => by
    cases x <;> simp only [ctl] at h
    case seq a b =>
      have := ctl_sound m _ k' h hk
      rw [W.code] at this ⊢
      exact XS.seq this
    case skip =>
      rw [W.code]
      exact XS.of (by rw [xCode_skip]; exact ctl_sound m _ k' h hk)
    case ops l =>
      have := ctl_sound m _ k' h hk
      rw [W.ops] at this
      rw [W.code]
      exact XS.of (by rw [xCode_ops]; exact this)
    case block i b =>
      have := ctl_sound m _ k' h hk
      rw [W.code] at this ⊢
      exact XS.block this
    case exit i =>
      split at h
      · rename_i k2 h2
        rw [W.code]
        exact XS.of (by rw [xCode_exit]; exact W.exit h2 (ctl_sound m k2 k' h hk))
      cases h
    all_goals cases h
def runJ (tm : Fr) (m : Nat) : Nat → Nat → List KJ → List (Nat × AV) → Option (List KJ × List (Nat × AV))
  | 0, _, _, _ => none
  | n + 1, c, k, fr => match c with
    | 0 => match ctl m k with
      | some k' => some (k', fr)
      | none => none
    | c + 1 => match k with
      | .ops l :: k => match l with
        | [] => runJ tm m n (c + 1) k fr
        | o :: l => match stepF true tm o fr with
          | some fr' => runJ tm m n c (.ops l :: k) fr'
          | none => none
      | k => match ctl 1 k with
        | some k' => runJ tm m n (c + 1) k' fr
        | none => none
theorem runJ_sound {m : Nat} : ∀ (n c : Nat) (k : List KJ) (fr : List (Nat × AV)) (k' : List KJ) (fr' : List (Nat × AV)), runJ tm m n c k fr = some (k', fr') → W X k' (updL tm fr') st → W X k (updL tm fr) st
  | 0, c, k, fr, k', fr', h, _ => by simp [runJ] at h
  | n + 1, 0, k, fr, k', fr', h, hk => by
    simp only [runJ] at h
    split at h
    · rename_i k2 h2; cases h; exact ctl_sound m k _ h2 hk
    cases h
  | n + 1, c + 1, k, fr, k', fr', h, hk => by
    simp only [runJ] at h
    split at h
    · rename_i k0 l k2
      cases l with
      | nil =>
        rw [W.ops, xOps_nil]
        exact runJ_sound n (c + 1) _ fr k' fr' h hk
      | cons o l =>
        simp only at h
        split at h
        · rename_i fr2 h2
          exact stepF_sound h2 (runJ_sound n c _ _ k' fr' h hk)
        cases h
    split at h
    · rename_i k2 h2
      exact ctl_sound 1 _ k2 h2 (runJ_sound n (c + 1) k2 fr k' fr' h hk)
    cases h
theorem rj (c m : Nat) {fr' : List (Nat × AV)} (h : runJ tm m 400 c k fr = some (k', fr')) (hk : W X k' (updL tm fr') st) : W X k (updL tm fr) st := runJ_sound 400 c k fr k' fr' h hk
theorem cd {z : AX} {x y : ACode} {t : Bool} (hz : tm.x z = .bool t) (h1 : t = true → W X (.code x :: k) tm st) (h2 : t = false → W X (.code y :: k) tm st) : W X (.code (.cond z x y) :: k) tm st := by
  simp only [W.code] at h1 h2 ⊢
  exact XS.cond hz h1 h2
theorem ct {z : AX} {x y : ACode} {t : Bool} (hz : tm.x z = .bool t) (ht : t = true) (h1 : W X (.code x :: k) tm st) : W X (.code (.cond z x y) :: k) tm st := cd hz (fun _ => h1) fun e => by rw [ht] at e; cases e
theorem cf {z : AX} {x y : ACode} {t : Bool} (hz : tm.x z = .bool t) (ht : t = false) (h1 : W X (.code y :: k) tm st) : W X (.code (.cond z x y) :: k) tm st := cd hz (fun e => by rw [ht] at e; cases e) fun _ => h1
theorem lp {b : ACode} (h : W X (.code b :: .lp b :: k) tm st) : W X (.lp b :: k) tm st := by
  rw [W.code] at h
  rw [W.lp]
  exact XLoop.once h
theorem rfin (h : X.fin .ret tm st) : W X (.code .ret :: k) tm st := by
  rw [W.code]
  exact XS.of (by rw [xCode_ret, wQ_ret]; exact h)
theorem rt {P : Program} {E : Glob} {N : Nat} {mu : Nat → Bool} {res : List RA} {K : AV → Store → Prop} {vs : List AV} (h : resL E tm st res = some vs) (hk : K (pack vs) st) : W ⟨P, E, N, mu, res, K, endQ E res K⟩ (.code .ret :: k) tm st :=
  rfin (by show endQ E res K .ret tm st; rw [endQ_ret, h, XR_some]; exact hk)
theorem re {P : Program} {E : Glob} {N : Nat} {mu : Nat → Bool} {res : List RA} {K : AV → Store → Prop} {vs : List AV} (h : resL E tm st res = some vs) (hk : K (pack vs) st) : W ⟨P, E, N, mu, res, K, endQ E res K⟩ [] tm st := by
  simp only [W, wQ, endQ_normal, h, XR_some]; exact hk
theorem en {l : List (Nat × AV)} (hf : Frm tm l) (h : W X k (updL tm l) st) : W X k tm st := by rw [Frm.eq hf] at h; exact h
theorem wkl (hw : Weak tm tm') {c : ACode} (h : W X (.lp c :: k) tm' st) : W X (.lp c :: k) tm st := by
  rw [W.lp] at h ⊢; exact XLoop.weak hw h
end
end Go.Proofs.Ytjbafmnocopofaa.AW
end
section
namespace Go.Proofs.Ytjbafmnocopofaa.AW
open Go

class DtV (v : AV) : Prop where h : DS v v
class DtL (cs : List AV) : Prop where h : DSL cs cs
class DtF {α : Type} (f : α → AV) : Prop where h : ∀ x, DS (f x) (f x)
instance (k : IntKind) (n : Int) : DtV (.int k n) := ⟨ds_i⟩
instance (b : Bool) : DtV (.bool b) := ⟨ds_b⟩
instance (s : Str) : DtV (.str s) := ⟨ds_s⟩
instance : DtV .nils := ⟨⟨rfl, rfl⟩⟩
instance : DtV .nilptr := ⟨⟨rfl, rfl⟩⟩
instance (cs : List AV) [h : DtL cs] : DtV (.agg cs) := ⟨ds_agg h.h⟩
instance (cs : List AV) [h : DtL cs] : DtV (.tup cs) := ⟨ds_tup h.h⟩
instance : DtL [] := ⟨dsl_nil⟩
instance (v : AV) (l : List AV) [h : DtV v] [hl : DtL l] : DtL (v :: l) := ⟨dsl_cons h.h hl.h⟩
instance (a b : List AV) [h : DtL a] [hl : DtL b] : DtL (a ++ b) := ⟨dsl_app h.h hl.h⟩
instance (k : IntKind) (n : Int) : DtL (cI k n) := ⟨cI_ds k n⟩
instance (b : Bool) : DtL (cB b) := ⟨cB_ds b⟩
instance (s : Str) : DtL (cS s) := ⟨cS_ds s⟩
instance (k : IntKind) : DtF (AV.int k) := ⟨fun _ => ds_i⟩
instance : DtF AV.bool := ⟨fun _ => ds_b⟩
instance : DtF AV.str := ⟨fun _ => ds_s⟩
instance {α : Type} (es : Nat) (f : α → AV) [h : DtF f] : DtF (slV es f) := ⟨fun o => ds_sl h.h⟩
instance {α : Type} (es : Nat) (f : α → AV) (o : Sl α) [h : DtF f] : DtV (slV es f o) := ⟨ds_sl h.h⟩
theorem dsw {α : Type} {es : Nat} {f : α → AV} {o : Sl α} {id : Nat} [h : DtF f] : DS (ownV es f o id) (slV es f o) := ds_own h.h
theorem dsv {v : AV} [h : DtV v] : DS v v := h.h
section
variable {E : Glob} {tm : Fr} {st : Store} {x y i a : AX}
theorem l1 {id off : Nat} {cs : List AV} {v : AV} (hp : tm.x a = .ptr id off) (ho : st[id]? = some (.cells cs)) (hc : cs[off]? = some v) : evalAI E tm st (.load1 a) = some (v, st) := by
  simp only [ev_load1, hp, cellsAt, ho]
  have := (List.getElem?_eq_some_iff.1 hc).1
  rw [if_pos (by omega)]
  simp only [obind_some]
  rw [List.headD_eq_head?_getD, List.head?_take, if_neg (by decide), List.head?_drop, hc]; rfl
theorem lN {id off n : Nat} {cs s : List AV} (hp : tm.x a = .ptr id off) (ho : st[id]? = some (.cells cs)) (hb : Nat.ble (off + n) cs.length = true) (hc : (cs.drop off).take n = s) : evalAI E tm st (.loadN n a) = some (.agg s, st) := by
  simp only [ev_loadN, hp, cellsAt, ho]
  rw [if_pos (Nat.le_of_ble_eq_true hb), hc]; rfl
theorem l1D {cs : List AV} {v : AV} (hp : tm.x a = .dptr cs) (hc : cs[0]? = some v) : evalAI E tm st (.load1 a) = some (v, st) := by
  cases cs with
  | nil => simp at hc
  | cons z q => simp at hc; subst hc; simp [ev_load1, hp, cellsAt, obind]
theorem lND {n : Nat} {cs s : List AV} (hp : tm.x a = .dptr cs) (hb : Nat.ble n cs.length = true) (hc : cs.take n = s) : evalAI E tm st (.loadN n a) = some (.agg s, st) := by
  simp only [ev_loadN, hp, cellsAt]
  rw [if_pos (Nat.le_of_ble_eq_true hb), hc]; rfl
theorem bd {z cs : List AV} {ps : List (Nat × Nat × AX)} {l : List (Nat × List AV)} (h : partsOk z.length ps tm = some l) (hf : fillA z l = cs) : evalAI E tm st (.build z ps) = some (.agg cs, st) := e_build h hf
theorem pk {total off size : Nat} {x : AX} {cs : List AV} {rest : List (Nat × Nat × AX)} {l : List (Nat × List AV)} (hc : (tm.x x).cells = cs) (hl : Nat.beq cs.length size = true) (ho : Nat.ble (off + size) total = true) (h : partsOk total rest tm = some l) : partsOk total ((off, size, x) :: rest) tm = some ((off, cs) :: l) :=
  pk_cons rfl hc (Nat.eq_of_beq_eq_true hl) (Nat.le_of_ble_eq_true ho) h
def fitP (total : Nat) : List (Nat × Nat × AX) → Fr → Bool
  | [], _ => true
  | (off, size, x) :: rest, tm => Nat.beq (tm.x x).cells.length size && (Nat.ble (off + size) total && fitP total rest tm)
def valP : List (Nat × Nat × AX) → Fr → List (Nat × List AV)
  | [], _ => []
  | (off, _, x) :: rest, tm => (off, (tm.x x).cells) :: valP rest tm
theorem fitP_ok {total : Nat} : ∀ {ps : List (Nat × Nat × AX)}, fitP total ps tm = true → partsOk total ps tm = some (valP ps tm)
  | [], _ => rfl
  | (off, size, x) :: rest, h => by
    simp only [fitP, Bool.and_eq_true] at h
    simp only [partsOk, valP, fitP_ok h.2.2]
    rw [if_pos ⟨Nat.eq_of_beq_eq_true h.1, Nat.le_of_ble_eq_true h.2.1⟩]; rfl
theorem bR {z cs : List AV} {ps : List (Nat × Nat × AX)} (h : fitP z.length ps tm = true) (hf : fillA z (valP ps tm) = cs) : evalAI E tm st (.build z ps) = some (.agg cs, st) := e_build (fitP_ok h) hf
end

section
variable {X : Cx} {k : List KJ} {tm : Fr} {fr : List (Nat × AV)} {st : Store} {l suf : List AOp} {d : Nat} {st0 : Store} {mr r : Nat} {x y i a : AX} {L L0 L' L0' : List Asn}

theorem al {z cs : List AV} (hs : SH st L) (h : z = cs) (hk : ∀ st id, SH st (pt id (.cells cs) :: L) → W X (.ops l :: k) (updL tm ((d, (.ptr id 0)) :: fr)) st) : W X (.ops (⟨.some d, .none, .plain (.alloc z)⟩ :: l) :: k) (updL tm fr) st :=
  W.po (e_alloc z cs h) (hk _ _ (hs.push _))
theorem bx {n : Nat} {cs : List AV} (hs : SH st L) (hx : ((updL tm fr).x x).cells = cs) (hn : Nat.beq cs.length n = true) (hk : ∀ st id, SH st (pt id (.cells cs) :: L) → W X (.ops l :: k) (updL tm ((d, (.ptr id 0)) :: fr)) st) : W X (.ops (⟨.some d, .none, .plain (.box n x)⟩ :: l) :: k) (updL tm fr) st :=
  W.po (e_box hx (Nat.eq_of_beq_eq_true hn)) (hk _ _ (hs.push _))
def stOk (cs : List AV) (off n : Nat) (v : AV) : Bool := Nat.beq v.cells.length n && (Nat.ble (off + n) cs.length && v.cells.all AV.one)
theorem sr {id off n : Nat} {cs cs' : List AV} (hs : SH st L) (j : Nat) (hp : (updL tm fr).x a = .ptr id off) (hj : L[j]? = some (pt id (.cells cs))) (hk1 : stOk cs off n ((updL tm fr).x x) = true) (hc : cs.take off ++ ((updL tm fr).x x).cells ++ cs.drop (off + n) = cs')
    (hL : setL L j (pt id (.cells cs')) = some L') (hk : ∀ st, SH st L' → W X (.ops l :: k) (updL tm fr) st) : W X (.ops (⟨.none, .none, .plain (.store n a x)⟩ :: l) :: k) (updL tm fr) st := by
  simp only [stOk, Bool.and_eq_true] at hk1
  subst hc
  refine W.o0 (v := .tup []) ?_ (hk _ (setL_eq hL ▸ hs.set hj _))
  have ho := hs.g j hj
  simp only [ev_store, hp, asPtr_is, ho, asC_is]
  rw [if_pos ⟨Nat.eq_of_beq_eq_true hk1.1, Nat.le_of_ble_eq_true hk1.2.1, hk1.2.2⟩]
theorem sl {id off n : Nat} {cs s s' cs' : List AV} (hs : SH st L) (j : Nat) (hp : (updL tm fr).x a = .ptr id off) (hj : L[j]? = some (pt id (.cells cs))) (hl : LR cs off s s' cs') (hn : s.length = n) (hx : ((updL tm fr).x x).cells = s') (hn' : s'.length = n) (h1 : s'.all AV.one = true)
    (hL : setL L j (pt id (.cells cs')) = some L') (hk : ∀ st, SH st L' → W X (.ops l :: k) (updL tm fr) st) : W X (.ops (⟨.none, .none, .plain (.store n a x)⟩ :: l) :: k) (updL tm fr) st :=
  W.o0 (e_store hp (hs.g j hj) hl hn hx hn' h1) (hk _ (setL_eq hL ▸ hs.set hj _))
theorem ap {α : Type} {es bytes : Nat} {f : α → AV} {o : Sl α} {id : Nat} {ys : List α} (hs : SH st L) (j : Nat) (hj : L[j]? = some (ownA id o)) (hx : (updL tm fr).x x = ownV es f o id) (hy : appElems es st ((updL tm fr).x y) = some (ys.map f)) (hb : ((ls o).length + ys.length) * bytes ≤ 140737488355328)
    {L' : Nat → List Asn} (hL : ∀ id, setL L j (ownA id (sapp o ys)) = some (L' id)) (hk : ∀ st id, SH st (L' id) → W X (.ops l :: k) (updL tm ((d, (ownV es f (sapp o ys) id)) :: fr)) st) : W X (.ops (⟨.some d, .none, .plain (.app es bytes x y)⟩ :: l) :: k) (updL tm fr) st := by
  obtain ⟨id', st', h1, h2⟩ := hs.app (E := X.E) (bytes := bytes) hj hx hy hb
  exact W.po h1 (hk _ _ (setL_eq (hL id') ▸ h2))
theorem bs {α : Type} {f : α → AV} {es len : Nat} {ag : Bool} {zero : List AV} {parts : List (Nat × Nat × AX)} (m : List α) (hs : SH st L) (hp : fitP (len * es) parts (updL tm fr) = true) (hf : (chunks es len (fillA (rep0 zero len) (valP parts (updL tm fr)))).map (ofCells ag) = m.map f)
    (h1 : (fillA (rep0 zero len) (valP parts (updL tm fr))).all AV.one = true) (hl : Nat.beq m.length len = true) (hk : ∀ st id, SH st (ownA id (some m) :: L) → W X (.ops l :: k) (updL tm ((d, (ownV es f (some m) id)) :: fr)) st) : W X (.ops (⟨.some d, .none, .plain (.bslice es len ag zero parts false)⟩ :: l) :: k) (updL tm fr) st :=
  W.po (e_bslice (fitP_ok hp) hf h1 (Nat.eq_of_beq_eq_true hl)) (hk _ _ (hs.push _))
theorem cb {α : Type} {es : Nat} {f : α → AV} {m : List α} {id : Nat} (hs : SH st L) (j : Nat) (hj : L[j]? = some (ownA id (some m))) (hx : (updL tm fr).x x = ownV es f (some m) id) (hk : W X (.ops l :: k) (updL tm ((d, (ownV es f (some m) id)) :: fr)) st) : W X (.ops (⟨.some d, .none, .plain (.cvB x)⟩ :: l) :: k) (updL tm fr) st :=
  W.po (by simp only [evalAI, hx, ownV, hs.g j hj, List.length_map, if_true]) hk
theorem df {f : FuncId} {xs : List AX} {ds : List AV} {v : AV} (h : DFun X.P X.E f ds v) [hd : DtL ds] (ha : xs.map (updL tm fr).x = ds) (hk : W X (.ops l :: k) (updL tm ((d, v) :: fr)) st) : W X (.ops (⟨.some d, .none, .call f xs⟩ :: l) :: k) (updL tm fr) st := by
  rw [W.ops] at hk ⊢
  simp only [xOps_call]
  exact xc_fun h (by rw [ha]; exact hd.h.1) (by rw [ha]; exact hd.h.2) (by rw [put_upd]; exact hk)
theorem df' {f : FuncId} {xs : List AX} {ds : List AV} {v : AV} (h : DFun X.P X.E f ds v) (hd : DSL (xs.map (updL tm fr).x) ds) (hk : W X (.ops l :: k) (updL tm ((d, v) :: fr)) st) : W X (.ops (⟨.some d, .none, .call f xs⟩ :: l) :: k) (updL tm fr) st := by
  rw [W.ops] at hk ⊢
  simp only [xOps_call]
  exact xc_fun h hd.1 hd.2 (by rw [put_upd]; exact hk)
theorem ale {l l' : List AV} (h : l = l') : ArgL l l' := fun _ _ hr => h ▸ hr
theorem cl {f : FuncId} {xs : List AX} {ds : List AV} (ha : ArgL (xs.map (updL tm fr).x) ds) (h : XCall X.P X.E f ds st fun v st => W X (.ops l :: k) (updL tm ((d, v) :: fr)) st) : W X (.ops (⟨.some d, .none, .call f xs⟩ :: l) :: k) (updL tm fr) st := by
  rw [W.ops]
  simp only [xOps_call, XC, put_upd]
  exact xcall_arg ha (h.mono fun v st' hw => W.ops.1 hw)
theorem cv {f : AX} {g : FuncId} {caps : List AV} {xs : List AX} {ds : List AV} (hf : (updL tm fr).x f = .fn g caps) (hc : callable X.P g = true) (ha : ArgL (xs.map (updL tm fr).x ++ caps) ds) (h : XCall X.P X.E g ds st fun v st => W X (.ops l :: k) (updL tm ((d, v) :: fr)) st) : W X (.ops (⟨.some d, .none, .callv f xs⟩ :: l) :: k) (updL tm fr) st := by
  rw [W.ops, xOps_callv, hf]
  refine ⟨hc, xcall_arg ha (h.mono fun v st' hw => ?_)⟩
  rw [put_upd]; exact W.ops.1 hw
theorem dr0 {mr : Nat} {q suf : List AOp} (h : WD X st mr q 0 suf k (updL tm fr) st) : W X (.code (.draw [] mr 0 q suf) :: k) (updL tm fr) st := by
  rw [W.code]
  exact XS.of (by rw [xCode_draw]; simpa [maskS, WD, sufK] using h)
theorem drn {mr nb : Nat} {q suf : List AOp} (hs : SH st L) (h : ∀ s0 st' : Store, SH s0 L → SH st' (ptU s0.length nb 0 ++ L) → WD X s0 mr q 0 suf k (updL tm fr) st') : W X (.code (.draw [] mr nb q suf) :: k) (updL tm fr) st := by
  rw [W.code]
  exact XS.of (by rw [xCode_draw]; simpa [maskS, WD, sufK] using h _ _ hs (hs.unborn nb))
theorem dr1 {mr nb : Nat} {q suf : List AOp} {id off : Nat} {o : List AV} (hs : SH st L) (j : Nat) (ha : (updL tm fr).x a = .ptr id off) (hj : L[j]? = some (pt id (.cells o))) (hL : setL L j (pt id .hid) = some L0')
    (h : ∀ s0 st' : Store, SH s0 L0' → SH st' (ptU s0.length nb 0 ++ L) → WD X s0 mr q 0 suf k (updL tm fr) st') : W X (.code (.draw [a] mr nb q suf) :: k) (updL tm fr) st := by
  rw [W.code]
  have := h (st.set id .hid) (st ++ List.replicate nb .unborn) (setL_eq hL ▸ hs.set hj _) (by rw [List.length_set]; exact hs.unborn nb)
  have hc : aliveC st id = true := by unfold aliveC; rw [hs.g j hj]
  exact XS.of (by rw [xCode_draw]; simpa [maskS, WD, sufK, ha, hc] using this)
theorem dz (h : W X (.ops suf :: k) (updL tm fr) st) : WD X st0 mr [] r suf k (updL tm fr) st := by
  rw [W.ops] at h
  simp only [WD, lexQ_nil, sufK_app]; exact h
theorem de {i : AI} {v : AV} (hs : i.still = true) (h : evalAI X.E (updL tm fr) st0 i = some (v, st0)) (hk : WD X st0 mr l r suf k (updL tm ((d, v) :: fr)) st) : WD X st0 mr (⟨.some d, .none, .plain i⟩ :: l) r suf k (updL tm fr) st := by
  simp only [WD, lexQ_still _ _ _ _ hs, h, XD_some, put_upd]; exact hk
theorem don {d : Option Nat} {g : Nat} {b t : Bool} {i : AK} (hg : (updL tm fr) g = .bool t) (ht : t = b) (hk : WD X st0 mr (⟨d, .none, i⟩ :: l) r suf k (updL tm fr) st) : WD X st0 mr (⟨d, .some (g, b), i⟩ :: l) r suf k (updL tm fr) st := by
  subst ht
  simp only [WD, lexQ_guard, hg, XDG_run]; exact hk
theorem doff {g : Nat} {b t : Bool} {i : AK} (hg : (updL tm fr) g = .bool t) (ht : t = !b) (hb : bornN ⟨.some d, .none, i⟩ = 0) (hk : WD X st0 mr l r suf k (updL tm ((d, (.tup [])) :: fr)) st) : WD X st0 mr (⟨.some d, .some (g, b), i⟩ :: l) r suf k (updL tm fr) st := by
  subst ht
  cases b
  · simp only [WD, lexQ_guard, hg, Bool.not_false, XDG_tf, put_upd, hb, Nat.add_zero]; exact hk
  simp only [WD, lexQ_guard, hg, Bool.not_true, XDG_ft, put_upd, hb, Nat.add_zero]; exact hk
theorem doff' {g : Nat} {b : Bool} {i : AK} (hg : (updL tm fr) g = .tup []) (hb : bornN ⟨.some d, .none, i⟩ = 0) (hk : WD X st0 mr l r suf k (updL tm ((d, (.tup [])) :: fr)) st) : WD X st0 mr (⟨.some d, .some (g, b), i⟩ :: l) r suf k (updL tm fr) st := by
  simp only [WD, lexQ_guard, hg, XDG_tup, put_upd, hb, Nat.add_zero]; exact hk
def runD (tm : Fr) : Nat → List AOp → List (Nat × AV) → Option (List AOp × List (Nat × AV))
  | 0, l, fr => some (l, fr)
  | n + 1, l, fr => match l with
    | [] => none
    | o :: l => match stepF false tm o fr with
      | some fr' => runD tm n l fr'
      | none => none
theorem runD_sound : ∀ (n : Nat) (l : List AOp) (fr : List (Nat × AV)) (l' : List AOp) (fr' : List (Nat × AV)), runD tm n l fr = some (l', fr') → WD X st0 mr l' r suf k (updL tm fr') st → WD X st0 mr l r suf k (updL tm fr) st
  | 0, l, fr, l', fr', h, hk => by simp only [runD] at h; cases h; exact hk
  | n + 1, [], fr, l', fr', h, hk => by simp [runD] at h
  | n + 1, o :: l, fr, l', fr', h, hk => by
    simp only [runD] at h
    split at h
    · rename_i fr2 h2
      have hw := runD_sound n _ _ l' fr' h hk
      obtain ⟨d, v, rfl, hc⟩ := stepF_cases h2
      rcases hc with ⟨g, b, i, rfl, rfl, hg | hg, hb⟩ | ⟨g, b, i, rfl, hg, hv⟩ | ⟨i, rfl, hv⟩
      · exact doff' hg (by simpa using hb) hw
      · exact doff hg rfl (by simpa using hb) hw
      · exact don hg rfl (de (stepV_still hv) (stepV_eval hv) hw)
      exact de (stepV_still hv) (stepV_eval hv) hw
    cases h
theorem dn {l' : List AOp} {fr' : List (Nat × AV)} (n : Nat) (h : runD tm n l fr = some (l', fr')) (hk : WD X st0 mr l' r suf k (updL tm fr') st) : WD X st0 mr l r suf k (updL tm fr) st := runD_sound n l fr l' fr' h hk
theorem ddf {f : FuncId} {xs : List AX} {ds : List AV} {v : AV} (h : DFun X.P X.E f ds v) [hd : DtL ds] (ha : xs.map (updL tm fr).x = ds) (hk : WD X st0 mr l r suf k (updL tm ((d, v) :: fr)) st) : WD X st0 mr (⟨.some d, .none, .call f xs⟩ :: l) r suf k (updL tm fr) st := by
  simp only [WD, lexQ_call]
  exact xdc_fun h (by rw [ha]; exact hd.h.1) (by rw [ha]; exact hd.h.2) (by rw [put_upd]; exact hk)
theorem dbs {α : Type} {f : α → AV} {es len : Nat} {ag : Bool} {zero : List AV} {parts : List (Nat × Nat × AX)} (m : List α) (hs : SH st L) (j : Nat) (hp : fitP (len * es) parts (updL tm fr) = true) (hf : (chunks es len (fillA (rep0 zero len) (valP parts (updL tm fr)))).map (ofCells ag) = m.map f)
    (h1 : (fillA (rep0 zero len) (valP parts (updL tm fr))).all AV.one = true) (hl : Nat.beq m.length len = true) (hj : L[j]? = some (pt (st0.length + r) .unborn))
    (hL : setL L j (ownA (st0.length + r) (some m)) = some L') (hk : ∀ st, SH st L' → WD X st0 mr l (r + 1) suf k (updL tm ((d, (ownV es f (some m) (st0.length + r))) :: fr)) st) : WD X st0 mr (⟨.some d, .none, .plain (.bslice es len ag zero parts false)⟩ :: l) r suf k (updL tm fr) st := by
  have hu := hs.g j hj
  have hl' := Nat.eq_of_beq_eq_true hl
  simp only [WD, lexQ_bslice, fitP_ok hp, XDB_some, h1, true_and, Eff.app, Eff.id, hu, Eff.upd, Option.map_some, XDE_some, put_upd, hf]
  have h2 : SH _ (L.set j (ownA (st0.length + r) (some m))) := hs.set hj (.tail m.length)
  have := hk _ (setL_eq hL ▸ h2)
  rw [hl'] at this
  exact this
theorem dst {id off n : Nat} {cs s1 s2 cs' : List AV} (h0 : SH st0 L0) (j0 : Nat) (hs : SH st L) (j : Nat) (hp : (updL tm fr).x a = .ptr id off) (hj0 : L0[j0]? = some (pt id .hid)) (hj : L[j]? = some (pt id (.cells cs))) (hl : LR cs off s1 s2 cs') (hn : s1.length = n) (hc : ((updL tm fr).x x).cells = s2) (hn' : s2.length = n) (h1 : s2.all AV.one = true)
    (hL : setL L j (pt id (.cells cs')) = some L') (hk : ∀ st, SH st L' → WD X st0 mr l r suf k (updL tm fr) st) : WD X st0 mr (⟨.none, .none, .plain (.store n a x)⟩ :: l) r suf k (updL tm fr) st := by
  have hg := hl.get hn
  have hpt := hl.put hn
  have hd := h0.g j0 hj0
  have ho := hs.g j hj
  simp only [WD, lexQ_store, hp, XDS_ptr, hd, true_and, Eff.app, Eff.id, ho, Eff.upd, hc]
  rw [if_pos ⟨hn', hg.1, h1⟩]
  simp only [Option.map_some, XDE_some, put_none, hpt]
  exact hk _ (setL_eq hL ▸ hs.set hj _)
theorem lrx {cs s : List AV} (off n : Nat) (s' : List AV) (hb : Nat.ble (off + n) cs.length = true) (hc : (cs.drop off).take n = s) : LR cs off s s' (cs.take off ++ s' ++ cs.drop (off + n)) :=
  ⟨cs.take off, cs.drop (off + n), by
    subst hc
    rw [List.append_assoc, ← List.drop_drop, List.take_append_drop, List.take_append_drop], rfl, by
    have := Nat.le_of_ble_eq_true hb
    simp; omega⟩
theorem dsr' {id off n : Nat} {cs cs' : List AV} (h0 : SH st0 L0) (j0 : Nat) (hs : SH st L) (j : Nat) (hp : (updL tm fr).x a = .ptr id off) (hj0 : L0[j0]? = some (pt id .hid)) (hj : L[j]? = some (pt id (.cells cs))) (hk1 : stOk cs off n ((updL tm fr).x x) = true) (hc : cs.take off ++ ((updL tm fr).x x).cells ++ cs.drop (off + n) = cs')
    (hL : setL L j (pt id (.cells cs')) = some L') (hk : ∀ st, SH st L' → WD X st0 mr l r suf k (updL tm fr) st) : WD X st0 mr (⟨.none, .none, .plain (.store n a x)⟩ :: l) r suf k (updL tm fr) st := by
  simp only [stOk, Bool.and_eq_true] at hk1
  subst hc
  have hb := Nat.le_of_ble_eq_true hk1.2.1
  exact dst h0 j0 hs j hp hj0 hj (lrx off n _ hk1.2.1 rfl) (by simp; omega) rfl (Nat.eq_of_beq_eq_true hk1.1) hk1.2.2 hL hk
end

def cD (P : Program) (E : Glob) (N : Nat) (res : List RA) (r : AV) (mu : List Nat := []) : Cx := ⟨P, E, N, muL mu, res, isD (fun x => x = r), endQ E res (isD (fun x => x = r))⟩
def cK (P : Program) (E : Glob) (N : Nat) (res : List RA) (K : AV → Store → Prop) (mu : List Nat := []) : Cx := ⟨P, E, N, muL mu, res, K, endQ E res K⟩
theorem W.xs {P : Program} {E : Glob} {N : Nat} {mu : Nat → Bool} {res : List RA} {K : AV → Store → Prop} {c : ACode} {tm : Fr} {st : Store} (h : W ⟨P, E, N, mu, res, K, endQ E res K⟩ [.code c] tm st) : At ⟨P, E, N, mu, res, K, endQ E res K⟩ c [] tm st := W.code.1 h
theorem bD {mu : List Nat} {P : Program} {E : Glob} {f : FuncId} {n : Nat} {c : ACode} {res : List RA} {ds : List AV} {r : AV} (hf : compF P (muL mu) f = some ⟨n, c, res⟩) (hl : Nat.ble ds.length n = true) (h : W (cD P E n res r mu) [.code c] (updL (fun _ => .tup []) (fi ds 0)) []) : DFun P E f ds r :=
  dfun_at hf (Nat.le_of_ble_eq_true hl) (by rw [fi_init]; exact h.xs)
theorem bK {mu : List Nat} {P : Program} {E : Glob} {f : FuncId} {n : Nat} {c : ACode} {res : List RA} {ds : List AV} {st : Store} {K : AV → Store → Prop} (hf : compF P (muL mu) f = some ⟨n, c, res⟩) (hl : Nat.ble ds.length n = true) (h : W (cK P E n res K mu) [.code c] (updL (fun _ => .tup []) (fi ds 0)) st) : XCall P E f ds st K :=
  xcall_at hf (Nat.le_of_ble_eq_true hl) (by rw [fi_init]; exact h.xs)
theorem bS {mu : List Nat} {P : Program} {E : Glob} {f : FuncId} {n : Nat} {c : ACode} {res : List RA} {ds : List AV} {st : Store} {K : AV → Store → Prop} (hf : compF P (muL mu) f = some ⟨n, c, res⟩) (hl : Nat.ble ds.length n = true) (h : W (cK P E n res (isK K) mu) [.code c] (updL (fun _ => .tup []) (fi ds 0)) st) : XCall P E f ds st K :=
  xcallO_at hf (Nat.le_of_ble_eq_true hl) (by rw [fi_init]; exact h.xs)
section
variable {P : Program} {E : Glob} {N : Nat} {res : List RA} {k : List KJ} {tm : Fr} {st : Store} {r v : AV} {vs : List AV} {mu : List Nat}
theorem rD [hd : DtV r] (h : resL E tm st res = some vs) (hr : pack vs = r) : W (cD P E N res r mu) (.code .ret :: k) tm st := rt h (by rw [hr]; exact hd.h)
theorem eD [hd : DtV r] (h : resL E tm st res = some vs) (hr : pack vs = r) : W (cD P E N res r mu) [] tm st := re h (by rw [hr]; exact hd.h)
theorem rS {K : AV → Store → Prop} [hd : DtV v] (h : resL E tm st res = some vs) (hk : K v st) (hr : pack vs = v) : W (cK P E N res (isK K) mu) (.code .ret :: k) tm st := rt h (isk (by rw [hr]; exact hd.h) hk)
theorem eS {K : AV → Store → Prop} [hd : DtV v] (h : resL E tm st res = some vs) (hk : K v st) (hr : pack vs = v) : W (cK P E N res (isK K) mu) [] tm st := re h (isk (by rw [hr]; exact hd.h) hk)
theorem rK {K : AV → Store → Prop} (h : resL E tm st res = some vs) (hk : K v st) (hr : pack vs = v) : W (cK P E N res K mu) (.code .ret :: k) tm st := rt h (by rw [hr]; exact hk)
theorem rl0 : resL E tm st [] = some [] := rfl
theorem rlt {t : Nat} {vs : List AV} {rs : List RA} (hl : resL E tm st rs = some vs) : resL E tm st (.tmp t :: rs) = some (tm t :: vs) := rl_tmp rfl hl
end
end Go.Proofs.Ytjbafmnocopofaa.AW
end
section
namespace Go.Proofs.Ytjbafmnocopofaa.AW
open Go
instance (n : Nat) : OfNat AX n := ⟨.t n⟩
abbrev q (d : Nat) (i : AI) : AOp := ⟨.some d, .none, .plain i⟩
abbrev q0 (i : AI) : AOp := ⟨.none, .none, .plain i⟩
abbrev qc (d : Nat) (f : Nat) (l : List AX) : AOp := ⟨.some d, .none, .call f l⟩
abbrev qf (d : Nat) (f : AX) (l : List AX) : AOp := ⟨.some d, .none, .callv f l⟩
abbrev AOp.y (o : AOp) (g : Nat) : AOp := ⟨o.dst, .some (g, true), o.ins⟩
abbrev AOp.n (o : AOp) (g : Nat) : AOp := ⟨o.dst, .some (g, false), o.ins⟩
abbrev ki (n : Int) : AX := .c (.int .i64 n)
abbrev ku (n : Int) : AX := .c (.int .u8 n)
abbrev ACode.s (a b : ACode) : ACode := .seq a b
theorem ci {X : Cx} {k : List KJ} {tm : Fr} {st : Store} {z : AX} {x y : ACode} {t : Bool} {α : Type} {A B : Option α} {r : α} (hF : (if t = true then A else B) = some r) (hz : tm.x z = .bool t) (h1 : t = true → A = some r → W X (.code x :: k) tm st) (h2 : t = false → B = some r → W X (.code y :: k) tm st) : W X (.code (.cond z x y) :: k) tm st :=
  cd hz (fun c => h1 c (ite_t c hF)) (fun c => h2 c (ite_f c hF))
theorem bi {b : Bool} {p : Prop} {α : Type} {A B : Option α} {r : α} (hF : (if b = true then A else B) = some r) (h1 : b = true → A = some r → p) (h2 : b = false → B = some r → p) : p :=
  bsplit (fun c => h1 c (ite_t c hF)) (fun c => h2 c (ite_f c hF))
theorem updL_fix {tm : Fr} {fr : List (Nat × AV)} (g : Nat) {v w : AV} (hg : updL tm fr g = v) (hw : v = w) : updL tm ((g, w) :: fr) = updL tm fr := by
  subst hw
  funext i
  show upd (updL tm fr) g v i = updL tm fr i
  unfold upd
  cases e : Nat.beq g i with
  | false => rfl
  | true => rw [← Nat.eq_of_beq_eq_true e]; exact hg.symm
theorem wfx {X : Cx} {k : List KJ} {tm : Fr} {fr : List (Nat × AV)} {st : Store} (g : Nat) {b t : Bool} (hg : updL tm fr g = .bool b) (hb : b = t) (hk : W X k (updL tm ((g, .bool t) :: fr)) st) : W X k (updL tm fr) st := by
  rw [updL_fix g hg (by rw [hb])] at hk; exact hk
theorem dfx {X : Cx} {k : List KJ} {tm : Fr} {fr : List (Nat × AV)} {st st0 : Store} {mr r : Nat} {l suf : List AOp} (g : Nat) {b t : Bool} (hg : updL tm fr g = .bool b) (hb : b = t) (hk : WD X st0 mr l r suf k (updL tm ((g, .bool t) :: fr)) st) : WD X st0 mr l r suf k (updL tm fr) st := by
  rw [updL_fix g hg (by rw [hb])] at hk; exact hk
def cF {α : Type} (c : α → List AV) (z : α) (l : List α) : Nat → Nat → List AV
  | 0, _ => []
  | n + 1, i => c (l.getD i z) ++ cF c z l n (i + 1)
theorem cF_flat {α : Type} (c : α → List AV) (z : α) (l : List α) : ∀ n i : Nat, l.length = i + n → cF c z l n i = (l.drop i).flatMap c
  | 0, i, h => by simp [cF, List.drop_of_length_le (show l.length ≤ i by omega)]
  | n + 1, i, h => by
    have hi : i < l.length := by omega
    rw [cF, cF_flat c z l n (i + 1) (by omega), List.drop_eq_getElem_cons hi, List.flatMap_cons]
    simp [List.getD, hi]
theorem cF_A {n : Nat} {α : Type} (c : α → List AV) (z : α) (a : Arr n α) : cF c z a.l n 0 = cA c a := by rw [cF_flat c z a.l n 0 (by rw [a.h]; omega)]; rfl
instance {α : Type} (c : α → List AV) (z : α) (l : List α) (n i : Nat) [h : ∀ x, DtL (c x)] : DtL (cF c z l n i) := by
  induction n generalizing i with
  | zero => exact ⟨dsl_nil⟩
  | succ n ih => exact ⟨dsl_app (h _).h (ih _).h⟩
theorem lrF_get {n : Nat} {α : Type} {c : α → List AV} {z : α} {es : Nat} (hc : ∀ x, (c x).length = es) {a : Arr n α} {i : Int} {x : α} (h : ix a.l i = some x) : LR (cF c z a.l n 0) (i.toNat * es) (c x) (c x) (cF c z a.l n 0) := by
  rw [cF_A]; exact lr_get hc h
theorem lrF_set {n : Nat} {α : Type} {c : α → List AV} {z : α} {es : Nat} (hc : ∀ x, (c x).length = es) {a : Arr n α} {i : Int} {x : α} (h : ix a.l i = some x) (y : α) : LR (cF c z a.l n 0) (i.toNat * es) (c x) (c y) (cF c z (aset a i y).l n 0) := by
  rw [cF_A, cF_A]; exact lr_set hc h y
theorem eqC_F {n : Nat} {α : Type} [DecidableEq α] {ks ks' : List LK} {c : α → List AV} {z : α} (hc : EqC ks c) (e : ks' = repK ks n) : EqC ks' (fun a : Arr n α => cF c z a.l n 0) := fun x y => by
  simp only [cF_A]; exact eqC_A hc e x y
def cSl {α : Type} (es : Nat) (f : α → AV) (o : Sl α) : List AV := [slV es f o]
theorem slV_cells {α : Type} {es : Nat} {f : α → AV} {o : Sl α} : (slV es f o).cells = cSl es f o := by cases o <;> rfl
theorem cSl_len {α : Type} {es : Nat} {f : α → AV} (o : Sl α) : (cSl es f o).length = 1 := rfl
theorem cSl_one {α : Type} {es : Nat} {f : α → AV} (o : Sl α) : (cSl es f o).all AV.one = true := by cases o <;> rfl
instance {α : Type} (es : Nat) (f : α → AV) (o : Sl α) [h : DtF f] : DtL (cSl es f o) := ⟨dsl_cons (ds_sl h.h) dsl_nil⟩
def okI (k : IntKind) (n : Int) : Prop := (Lit.int k n).wf = true
def bk1 {α : Type} (_ : α) : Nat := 1
def bkS (s : Str) : Nat := s.length + 1
def bkSl {α : Type} (bk : α → Nat) (o : Sl α) : Nat := ((ls o).map bk).sum + 1
end Go.Proofs.Ytjbafmnocopofaa.AW
end
section
namespace Go.Proofs.Ytjbafmnocopofaa.AW
open Go Go.RowKit Go.WideShapes Go.ChangeShapes Go.Deep

structure RdOk {H : Type} {α : Type} (enc : TypeId × Value → H) (P : Program) (W : World) (base : Nat) (t : TypeId) (c : α → List AV) (ok : α → Prop) (bk : α → Nat) : Prop where
  rd : ∀ {fuel : Nat} {cs : List Value} {x : DataW H × List MemPlace}, DataW.trod enc P W base (fun _ => true) true fuel t cs = some x →
    ∃ a, RepL (G0 W) (c a) cs ∧ (∀ u ∈ cs, u.oneCell' = true) ∧ ok a ∧ bk a ≤ Rows.uptoBulk x.1
section
variable {H : Type} {enc : TypeId × Value → H} {P : Program} {W : World} {base : Nat} {t : TypeId}
theorem rdI {k : IntKind} (ht : P.underlying t = some (.int k)) : RdOk enc P W base t (cI k) (okI k) bk1 := ⟨fun h => by
  obtain ⟨n, rfl, rfl, hw⟩ := DataW.trod_int ht h
  exact ⟨n, repl_cons (rep_int0 k n) repl_nil, by simp [Value.oneCell'], hw, by simp [bk1, Rows.uptoBulk]⟩⟩
theorem ex_list {α : Type} {Q : Nat → α → Prop} : ∀ n : Nat, (∀ i, i < n → ∃ x, Q i x) → ∃ l : List α, l.length = n ∧ ∀ (i : Nat) x, l[i]? = some x → Q i x
  | 0, _ => ⟨[], rfl, fun i x h => by simp at h⟩
  | n + 1, h => by
    obtain ⟨l, hl, hq⟩ := ex_list n fun i hi => h i (by omega)
    obtain ⟨x, hx⟩ := h n (by omega)
    refine ⟨l ++ [x], by simp [hl], fun i y hy => ?_⟩
    rw [List.getElem?_append] at hy
    split at hy
    · exact hq i y hy
    have : i = n := by
      have := lt_of_getElem? hy
      simp at this; omega
    subst this
    simp [hl] at hy
    subst hy; exact hx
theorem reps_list {α : Type} {es b : Nat} {f : α → AV} : ∀ (l : List α) (o : Nat), (∀ (i : Nat) x, l[i]? = some x → ∃ u : Value, Rep (G0 W) (f x) u ∧ u.cells.size = es ∧ ∀ j y, u.cells[j]? = some y → M0 W b (o + i * es + j) = some y) → RepS (G0 W) es b o (l.map f)
  | [], _, _ => by simp only [List.map_nil, RepS]
  | x :: l, o, h => by
    simp only [List.map_cons, RepS]
    obtain ⟨u, h1, h2, h3⟩ := h 0 x rfl
    refine ⟨⟨u, h1, h2, fun j y hy => by
      have := h3 j y hy
      show M0 W b (o + j) = some y
      simpa using this⟩, reps_list l (o + es) fun i y hy => ?_⟩
    obtain ⟨u, k1, k2, k3⟩ := h (i + 1) y (by simpa using hy)
    refine ⟨u, k1, k2, fun j z hz => ?_⟩
    have := k3 j z hz
    rw [Nat.add_mul, Nat.one_mul] at this
    rwa [show o + es + i * es + j = o + (i * es + es) + j by omega]
theorem sum_le {α : Type} {bk : α → Nat} {D : Nat → DataW H} : ∀ (l : List α) (k : Nat), (∀ (i : Nat) x, l[i]? = some x → bk x ≤ Rows.uptoBulk (D (k + i))) → (l.map bk).sum ≤ Rows.uptoBulkAll ((List.range l.length).map fun i => D (k + i))
  | [], k, _ => by simp
  | x :: l, k, h => by
    have h0 := h 0 x rfl
    have ih := sum_le l (k + 1) fun i y hy => by
      have := h (i + 1) y (by simpa using hy)
      rwa [show k + 1 + i = k + (i + 1) by omega]
    have e : (List.range (x :: l).length).map (fun i => D (k + i)) = D (k + 0) :: (List.range l.length).map fun i => D (k + 1 + i) := by
      rw [List.length_cons, List.range_succ_eq_map, List.map_cons, List.map_map]
      congr 1
      apply List.map_congr_left
      intro i _
      simp only [Function.comp]
      rw [show k + (i + 1) = k + 1 + i by omega]
    rw [e]
    simp only [List.map_cons, List.sum_cons, Rows.uptoBulkAll]
    omega
theorem agg_rep {α : Type} {c : α → List AV} {es : Nat} : ∀ (a : α) (us : List Value), RepL (G0 W) (c a) us → us.length = es → ∃ u : Value, Rep (G0 W) (.agg (c a)) u ∧ u.cells.toList = us := fun a us h _ =>
  ⟨.agg us.toArray, by simp only [Rep]; exact ⟨us, h, rfl⟩, by simp [Value.cells]⟩
end
end Go.Proofs.Ytjbafmnocopofaa.AW
end
section
namespace Go.Proofs.Ytjbafmnocopofaa.AW
open Go

structure Rw (α : Type) where
  l : List α
  n : Nat
theorem chunks_flat {α : Type} {c : α → List AV} {f : α → AV} {es : Nat} {ag : Bool} (hc : ∀ x, (c x).length = es) (hf : ∀ x, ofCells ag (c x) = f x) : ∀ l : List α, (chunks es l.length (l.flatMap c)).map (ofCells ag) = l.map f
  | [] => rfl
  | x :: l => by
    simp only [List.length_cons, List.flatMap_cons, chunks, List.map_cons]
    rw [List.take_left' (hc x), List.drop_left' (hc x), hf, chunks_flat hc hf l]
section
variable {E : Glob} {tm : Fr} {st : Store} {x i : AX}
theorem e_iaddrR {id n es : Nat} {cs : List AV} {k : IntKind} {j : Int} (hp : tm.x x = .row id es 0 n) (ho : st[id]? = some (.cells cs)) (hi : tm.x i = .int k j) (h : 0 ≤ j ∧ j < (n : Int)) : evalAI E tm st (.iaddrL es x i) = some (.ptr id (j.toNat * es), st) := by
  simp only [ev_iaddrL, hi, asI_is, hp, elemP_row, alive_of ho]
  rw [if_pos ⟨trivial, trivial, h.1, h.2⟩, Nat.zero_add]
theorem e_lenR {id n es : Nat} {cs : List AV} (hp : tm.x x = .row id es 0 n) (ho : st[id]? = some (.cells cs)) : evalAI E tm st (.len x) = some (.int .i64 n, st) := by
  simp only [ev_len, hp, lenV_row, alive_of ho, if_true]
end
section
variable {X : Cx} {k : List KJ} {tm : Fr} {fr : List (Nat × AV)} {st : Store} {l : List AOp} {d : Nat} {L L1 : List Asn} {x y : AX}
end
def plc (es : Nat) : Nat → List (List AV) → List (Nat × List AV)
  | _, [] => []
  | o, c :: l => (o, c) :: plc es (o + es) l
theorem fill_plc {es : Nat} {zero : List AV} (hz : zero.length = es) : ∀ (l : List (List AV)) (pre : List AV), (∀ c ∈ l, c.length = es) → fillA (pre ++ rep0 zero l.length) (plc es pre.length l) = pre ++ l.flatten
  | [], pre, _ => by simp [plc, fillA, rep0]
  | c :: l, pre, h => by
    have hc := h c (by simp)
    have ih := fill_plc hz l (pre ++ c) fun d hd => h d (by simp [hd])
    simp only [plc, fillA, List.length_cons, rep0]
    rw [List.take_left, hc]
    have e : (pre ++ (zero ++ rep0 zero l.length)).drop (pre.length + es) = rep0 zero l.length := by
      rw [← List.append_assoc]
      exact List.drop_left' (by simp [hz])
    rw [e]
    rw [List.length_append, hc] at ih
    rw [ih]
    simp
end Go.Proofs.Ytjbafmnocopofaa.AW
end
section
namespace Go.Proofs.Ytjbafmnocopofaa.AW
open Go

def rvV {α : Type} (es : Nat) (o : Sl α) (id : Nat) : AV := match o with
  | none => .nils
  | some l => .row id es 0 l.length
def rvC {α : Type} (c : α → List AV) (o : Sl α) : List AV := (ls o).flatMap c
def rvA {α : Type} (c : α → List AV) (id : Nat) (o : Sl α) : Asn := match o with
  | none => emp
  | some l => pt id (.cells (l.flatMap c))
def vset {α : Type} (o : Sl α) (i : Int) (x : α) : Sl α := o.map (fun l => l.set i.toNat x)

theorem rv_some {α : Type} {o : Sl α} {i : Int} {x : α} (h : ix (ls o) i = some x) : ∃ l, o = some l := by
  cases o with
  | none => have := ix_some h; simp [ls] at this
  | some l => exact ⟨l, rfl⟩
theorem SH.rvNil {st : Store} {L : List Asn} (hs : SH st L) {α : Type} (c : α → List AV) : SH st (rvA c 0 (none : Sl α) :: L) := hs.empt fun _ => rfl
theorem lrV_get {α : Type} {c : α → List AV} {es : Nat} (hc : ∀ x, (c x).length = es) {o : Sl α} {i : Int} {x : α} (h : ix (ls o) i = some x) : LR (rvC c o) (i.toNat * es) (c x) (c x) (rvC c o) := by
  have := lr_list hc (ls o) i.toNat x x (ix_some h).2.1
  rw [set_get_self _ _ _ (ix_some h).2.1] at this
  exact this
theorem ls_vset {α : Type} (o : Sl α) (i : Int) (x : α) : ls (vset o i x) = (ls o).set i.toNat x := by cases o <;> rfl
theorem lrV_set {α : Type} {c : α → List AV} {es : Nat} (hc : ∀ x, (c x).length = es) {o : Sl α} {i : Int} {x : α} (h : ix (ls o) i = some x) (y : α) : LR (rvC c o) (i.toNat * es) (c x) (c y) (rvC c (vset o i y)) := by
  have := lr_list hc (ls o) i.toNat x y (ix_some h).2.1
  rw [← ls_vset] at this
  exact this
theorem rvV_vset {α : Type} (es : Nat) (o : Sl α) (i : Int) (x : α) (id : Nat) : rvV es (vset o i x) id = rvV es o id := by cases o <;> simp [rvV, vset]
theorem rep0_flat {α : Type} (c : α → List AV) (z : α) : ∀ n, rep0 (c z) n = (List.replicate n z).flatMap c
  | 0 => rfl
  | n + 1 => by simp [rep0, List.replicate_succ, rep0_flat c z n]
theorem SH.repl {st : Store} {P : Asn} {L : List Asn} (hs : SH st (P :: L)) (j : Nat) (hj : j < L.length) : SH st (L.set j P) := by
  obtain ⟨a, b, h1, h2, h3, h4⟩ := hs
  obtain ⟨p, q, k1, k2, k3, k4⟩ := starL_at (List.getElem?_eq_getElem hj) h2
  have hap : PH.dj a p ∧ PH.dj a q := PH.dj_or.1 (fun i => by rw [← k4 i]; exact h3 i)
  have h5 := starL_put hj h1 k2 hap.2
  have h6 : PH.dj (PH.or a q) p := (PH.dj_or.2 ⟨hap.1.symm, k3⟩).symm
  refine starL_congr (fun i => ?_) (starL_mono h6 h5)
  have h7 : st[i]? = PH.or a b i := h4 i
  show _ = st[i]?
  rw [h7, PH.or_assoc]
  have h8 := PH.or_comm k3 i
  simp only [PH.or, k4 i] at h8 ⊢
  rw [h8]
section
variable {E : Glob} {tm : Fr} {st : Store} {x i : AX} {L : List Asn}
theorem SH.gv {α : Type} {c : α → List AV} {o : Sl α} {id : Nat} {n : Int} {y : α} (hs : SH st L) (j : Nat) (hj : L[j]? = some (rvA c id o)) (h : ix (ls o) n = some y) : st[id]? = some (.cells (rvC c o)) := by
  obtain ⟨l, rfl⟩ := rv_some h
  exact hs.g j hj
theorem e_lenV {α : Type} {es : Nat} {c : α → List AV} {o : Sl α} {id : Nat} (hs : SH st L) (j : Nat) (hj : L[j]? = some (rvA c id o)) (hx : tm.x x = rvV es o id) : evalAI E tm st (.len x) = some (.int .i64 (ls o).length, st) := by
  cases o with
  | none => simp only [ev_len, hx, rvV]; rfl
  | some l => exact e_lenR hx (hs.g j hj)
theorem e_iaddrV {α : Type} {es : Nat} {c : α → List AV} {o : Sl α} {id : Nat} {k : IntKind} {n : Int} {y : α} (hs : SH st L) (j : Nat) (hj : L[j]? = some (rvA c id o)) (hx : tm.x x = rvV es o id) (hi : tm.x i = .int k n) (h : ix (ls o) n = some y) : evalAI E tm st (.iaddrL es x i) = some (.ptr id (n.toNat * es), st) := by
  obtain ⟨l, rfl⟩ := rv_some h
  have h2 := ix_some h
  exact e_iaddrR hx (hs.g j hj) hi ⟨h2.1, by simpa [ls] using h2.2.2⟩
end

section
variable {X : Cx} {k : List KJ} {tm : Fr} {fr : List (Nat × AV)} {st : Store} {l : List AOp} {d : Nat} {L L' L1 : List Asn} {x y a : AX}
theorem mkV {α : Type} {es bytes : Nat} {c : α → List AV} (z : α) {z0 : List AV} {xl xc : AX} {kd kd' : IntKind} {n m : Int} (hs : SH st L) (hz : z0 = c z) (hl : (updL tm fr).x xl = .int kd n) (hc : (updL tm fr).x xc = .int kd' m) (hb : 0 ≤ n ∧ m = n ∧ (bytes : Int) * n ≤ 281474976710656)
    (hk : ∀ st id, SH st (rvA c id (some (List.replicate n.toNat z)) :: L) → W X (.ops l :: k) (updL tm ((d, (rvV es (some (List.replicate n.toNat z)) id)) :: fr)) st) : W X (.ops (⟨.some d, .none, .plain (.mkslice es bytes z0 xl xc true)⟩ :: l) :: k) (updL tm fr) st := by
  subst hz
  have h3 := hs.push (.cells ((List.replicate n.toNat z).flatMap c))
  refine W.po (v := rvV es (some (List.replicate n.toNat z)) st.length) (st' := st ++ [.cells ((List.replicate n.toNat z).flatMap c)]) ?_ (hk _ _ h3)
  simp only [evalAI, hl, hc, if_true]
  rw [if_pos hb, rep0_flat]
  simp [rvV]
theorem apV {α : Type} {es bytes : Nat} {f : α → AV} {c : α → List AV} {o : Sl α} {id : Nat} {ys : List α} (hs : SH st L) (j : Nat) (hj : L[j]? = some (rvA c id o)) (hx : (updL tm fr).x x = rvV es o id) (hy : appElems es st ((updL tm fr).x y) = some (ys.map f))
    (hb : ((ls o).length + ys.length) * bytes ≤ 140737488355328) (hc : ∀ x, (c x).length = es) (hf : ∀ x, (f x).cells = c x)
    {L' : Nat → List Asn} (hL : ∀ id, setL L j (rvA c id (sapp o ys)) = some (L' id))
    (hk : ∀ st id, SH st (L' id) → W X (.ops l :: k) (updL tm ((d, (rvV es (sapp o ys) id)) :: fr)) st) : W X (.ops (⟨.some d, .none, .plain (.appR es bytes x y)⟩ :: l) :: k) (updL tm fr) st := by
  have hcells : (ys.map f).flatMap AV.cells = ys.flatMap c := by
    rw [List.flatMap_map]; congr 1; funext z; exact hf z
  cases o with
  | none =>
    simp only [ls, Option.getD_none, List.length_nil, Nat.zero_add] at hb
    cases ys with
    | nil =>
      refine W.po (v := .nils) (st' := st) ?_ (hk st id ?_)
      · simp only [evalAI, hy, hx, rvV, List.map_nil]
      have : L.set j (rvA c id (sapp (none : Sl α) [])) = L := set_get_self _ _ _ hj
      rw [setL_eq (hL id), this]; exact hs
    | cons z zs =>
      have e1 : rvA c st.length (sapp (none : Sl α) (z :: zs)) = pt st.length (.cells ((z :: zs).flatMap c)) := by simp [sapp, ls, rvA]
      refine W.po (v := rvV es (sapp none (z :: zs)) st.length) (st' := st ++ [.cells ((z :: zs).flatMap c)]) ?_ (hk _ st.length ?_)
      · simp only [evalAI, hy, hx, rvV, List.map_cons]
        rw [if_pos (by simpa using hb), ← List.map_cons, hcells]
        simp [sapp, ls]
      rw [setL_eq (hL _), e1]
      refine hs.upd hj fun a b ha hd he => ⟨fun i => if i = st.length then some (.cells ((z :: zs).flatMap c)) else none, fun _ => rfl, fun i => ?_, fun i => ?_⟩
      · by_cases e : i = st.length
        · right
          have := he i
          rw [List.getElem?_eq_none (by omega)] at this
          exact (PH.or_none.1 this.symm).2
        exact .inl (if_neg e)
      by_cases e : i = st.length
      · rw [PH.or_l (a := fun i => if i = st.length then some (.cells ((z :: zs).flatMap c)) else none) (x := .cells ((z :: zs).flatMap c)) (if_pos e)]; subst e; simp
      rw [PH.or_r (a := fun i => if i = st.length then some (.cells ((z :: zs).flatMap c)) else none) (if_neg e)]
      have h1 := he i
      rw [PH.or_r (ha i)] at h1
      rw [← h1]
      rcases Nat.lt_or_ge i st.length with h | h
      · rw [List.getElem?_append_left h]
      rw [List.getElem?_eq_none (by simp; omega), List.getElem?_eq_none h]
  | some m =>
    have hg : st[id]? = some (.cells (m.flatMap c)) := hs.g j hj
    have hid := (List.getElem?_eq_some_iff.1 hg).1
    have hml : (m.flatMap c).length = m.length * es := by
      clear hg hs hk hb hj hL hx
      induction m with
      | nil => simp
      | cons z m ih => simp [hc, ih, Nat.add_mul, Nat.add_comm]
    refine W.po (v := rvV es (sapp (some m) ys) st.length) (st' := st.set id .dead ++ [.cells (m.flatMap c ++ ys.flatMap c)]) ?_ (hk _ st.length ?_)
    · simp only [evalAI, hy, hx, rvV, hg]
      rw [if_pos ⟨trivial, trivial, hml, by simpa [ls] using hb⟩, hcells]
      simp [sapp, ls]
    rw [setL_eq (hL _)]
    have e1 : rvA c st.length (sapp (some m) ys) = pt st.length (.cells (m.flatMap c ++ ys.flatMap c)) := by simp [sapp, ls, rvA]
    rw [e1]
    have h2 := (SH.set (o' := .dead) hs hj).push (.cells (m.flatMap c ++ ys.flatMap c))
    rw [List.length_set] at h2
    have hjl : j < L.length := (List.getElem?_eq_some_iff.1 hj).1
    have h3 := h2.repl j (by simpa using hjl)
    rwa [List.set_set] at h3
theorem slv {α : Type} {c : α → List AV} {o o' : Sl α} {u : Int} {v v' : α} {id off n : Nat} {s s' : List AV} (hs : SH st L) (j : Nat) (hp : (updL tm fr).x a = .ptr id off) (hj : L[j]? = some (rvA c id o)) (hix : ix (ls o) u = some v) (ho' : o' = vset o u v') (hl : LR (rvC c o) off s s' (rvC c o')) (hn : s.length = n) (hx : ((updL tm fr).x x).cells = s') (hn' : s'.length = n) (h1 : s'.all AV.one = true)
    (hL : setL L j (rvA c id o') = some L') (hk : ∀ st, SH st L' → W X (.ops l :: k) (updL tm fr) st) : W X (.ops (⟨.none, .none, .plain (.store n a x)⟩ :: l) :: k) (updL tm fr) st := by
  obtain ⟨m, rfl⟩ := rv_some hix
  subst ho'
  exact W.o0 (e_store hp (hs.g j hj) hl hn hx hn' h1) (hk _ (setL_eq hL ▸ hs.set hj _))
end

section
variable {E : Glob} {tm : Fr} {st : Store} {x i : AX} {L : List Asn}
end
section
variable {X : Cx} {k : List KJ} {tm : Fr} {fr : List (Nat × AV)} {st : Store} {l : List AOp} {d : Nat} {L L' L1 : List Asn} {x y a : AX}
end
theorem xcall_freeze {P : Program} {E : Glob} {f : FuncId} {ds : List AV} {st : Store} {α : Type} {es : Nat} {c : α → List AV} {g : α → AV} {o : Sl α} (hes : 0 < es) (hc : ∀ x, (c x).length = es) (h1 : ∀ x, (c x).all AV.one = true) (hf : ∀ x, ofCells (!(es == 1)) (c x) = g x) (hg : ∀ x, DS (g x) (g x))
    (h : XCall P E f ds st fun r st' => ∃ id, r = rvV es o id ∧ SH st' [rvA c id o]) : XCall P E f ds st fun r _ => r = slV es g o := by
  intro G w vs hr hs
  refine (h G w vs hr hs).mono fun e w' ⟨u, r, st', G', he, hr', hs', hext, id, hrr, hsh⟩ => ?_
  subst hrr
  cases o with
  | none => exact ⟨u, .nils, st', G', he, hr', hs', hext, rfl⟩
  | some l =>
    have hst : st'[id]? = some (.cells (l.flatMap c)) := hsh.g 0 rfl
    have hl : (l.flatMap c).length = l.length * es := flat_len hc l
    have ha : (l.flatMap c).all AV.one = true := by
      simp only [List.all_flatMap]; exact List.all_eq_true.2 fun z _ => h1 z
    obtain ⟨G2, s2, x2, r2⟩ := freeze_row hs' hr' hst hl hes ha
    have e2 : (chunks es l.length (l.flatMap c)).map (ofCells (!(es == 1))) = l.map g := chunks_flat hc hf l
    rw [e2] at r2
    have hd : DS (.sl es (l.map g) (some st'.length)) (slV es g (some l)) := ds_rd hg (.inr ⟨l, some st'.length, rfl, rfl⟩)
    have r3 := strip_rep (G := G2) (G' := G2) (fun _ _ _ h => h) hd.1 r2
    rw [hd.2] at r3
    exact ⟨u, _, _, G2, he, r3, s2, hext.trans x2, rfl⟩
theorem dfun_rv {P : Program} {E : Glob} {f : FuncId} {ds : List AV} {α : Type} {es : Nat} {c : α → List AV} {g : α → AV} [hg : DtF g] {o : Sl α} (hes : Nat.ble 1 es = true) (hc : ∀ x, (c x).length = es) (h1 : ∀ x, (c x).all AV.one = true) (hf : ∀ x, ofCells (!(es == 1)) (c x) = g x)
    (h : ∀ (st : Store) (L : List Asn) (K : AV → Store → Prop), SH st L → (∀ st id, SH st (rvA c id o :: L) → K (rvV es o id) st) → XCall P E f ds st K) : DFun P E f ds (slV es g o) := by
  have h2 := xcall_freeze (Nat.le_of_ble_eq_true hes) hc h1 hf hg.h (h [] [] (fun r st' => ∃ id, r = rvV es o id ∧ SH st' [rvA c id o]) SH.nil fun st id hs => ⟨id, rfl, hs⟩)
  have hds : DS (slV es g o) (slV es g o) := ds_sl hg.h
  exact h2.mono fun r st' hr => by subst hr; exact ⟨hds.1, hds.2⟩
end Go.Proofs.Ytjbafmnocopofaa.AW
end
section
namespace Go.Proofs.Ytjbafmnocopofaa.AW
open Go

def bun (l : List Asn) : Asn := starL l
theorem SH.unbun {st : Store} {l L : List Asn} (h : SH st (bun l :: L)) : SH st (l ++ L) := starL_app.2 h
theorem SH.bun {st : Store} {l L : List Asn} (h : SH st (l ++ L)) : SH st (bun l :: L) := starL_app.1 h
theorem SH.tail {st : Store} {P : Asn} {L : List Asn} (h : SH st (P :: L)) : SH st L := by
  obtain ⟨a, b, h1, h2, h3, h4⟩ := h
  refine starL_congr (fun i => ?_) (starL_mono h3.symm h2)
  exact ((h4 i).trans (PH.or_comm h3 i)).symm
theorem SH.kill {st : Store} {id : Nat} {o : AObj} {L : List Asn} (h : SH st (pt id o :: L)) : SH (st.set id .dead) L := (SH.set h (j := 0) rfl .dead).tail
theorem SH.set0 {st : Store} {id : Nat} {o : AObj} {L : List Asn} (h : SH st (pt id o :: L)) (o' : AObj) : SH (st.set id o') (pt id o' :: L) := SH.set h (j := 0) rfl o'
theorem SH.at0 {st : Store} {id : Nat} {o : AObj} {L : List Asn} (h : SH st (pt id o :: L)) : st[id]? = some o := SH.g h 0 rfl
def bx1 (A : Nat → List Asn) : Asn := fun h => ∃ j, starL (A j) h
def bx2 (A : Nat → Nat → List Asn) : Asn := fun h => ∃ j k, starL (A j k) h
theorem SH.bx1o {st : Store} {A : Nat → List Asn} {L : List Asn} (h : SH st (bx1 A :: L)) : ∃ j, SH st (A j ++ L) := by
  obtain ⟨a, b, ⟨j, h1⟩, h2, h3, h4⟩ := h
  exact ⟨j, starL_app.2 ⟨a, b, h1, h2, h3, h4⟩⟩
theorem SH.bx2o {st : Store} {A : Nat → Nat → List Asn} {L : List Asn} (h : SH st (bx2 A :: L)) : ∃ j k, SH st (A j k ++ L) := by
  obtain ⟨a, b, ⟨j, k, h1⟩, h2, h3, h4⟩ := h
  exact ⟨j, k, starL_app.2 ⟨a, b, h1, h2, h3, h4⟩⟩
theorem SH.bx1c {st : Store} {A : Nat → List Asn} {L : List Asn} (j : Nat) (h : SH st (A j ++ L)) : SH st (bx1 A :: L) := by
  obtain ⟨a, b, h1, h2, h3, h4⟩ := starL_app.1 h
  exact ⟨a, b, ⟨j, h1⟩, h2, h3, h4⟩
theorem SH.bx2c {st : Store} {A : Nat → Nat → List Asn} {L : List Asn} (j k : Nat) (h : SH st (A j k ++ L)) : SH st (bx2 A :: L) := by
  obtain ⟨a, b, h1, h2, h3, h4⟩ := starL_app.1 h
  exact ⟨a, b, ⟨j, k, h1⟩, h2, h3, h4⟩
theorem SH.cong {st : Store} {id : Nat} {cs : List AV} {L L' : List Asn} (hs : SH st L) (j : Nat) (hj : L[j]? = some (pt id (.cells cs))) {cs' : List AV} (h : cs = cs') (hL : setL L j (pt id (.cells cs')) = some L') : SH st L' := by
  subst h
  have e := setL_eq hL
  have e2 : L.set j (pt id (.cells cs)) = L := by
    refine List.ext_getElem? fun i => ?_
    by_cases e3 : j = i
    · subst e3; rw [List.getElem?_set_self (List.getElem?_eq_some_iff.1 hj).1, hj]
    rw [List.getElem?_set_ne e3]
  rw [e, e2]; exact hs
def putL (tm : Fr) : List Nat → List AV → Fr
  | [], _ => tm
  | _ :: _, [] => tm
  | p :: ps, v :: vs => putL (upd tm p v) ps vs

theorem putL_rel {G : Gh} {N : Nat} : ∀ {ps : List Nat} {ds : List AV} {vs : List Value} {tm : Fr} {T : Array Value}, (∀ p ∈ ps, p < N) → RepL G ds vs → T.size = N → (∀ t, Rep G (tm t) (T.getD t undef)) →
    ((ps.zip vs).foldl (fun tmps (t, a) => tmps.setIfInBounds t a) T).size = N ∧ ∀ t, Rep G (putL tm ps ds t) (((ps.zip vs).foldl (fun tmps (t, a) => tmps.setIfInBounds t a) T).getD t undef)
  | [], ds, vs, tm, T, _, _, hT, h => ⟨by simpa using hT, fun t => by simpa [putL] using h t⟩
  | p :: ps, [], vs, tm, T, _, hr, hT, h => by
    simp only [RepL] at hr
    subst hr
    exact ⟨by simpa using hT, fun t => by simpa [putL] using h t⟩
  | p :: ps, d :: ds, vs, tm, T, hp, hr, hT, h => by
    simp only [RepL] at hr
    obtain ⟨u, us, rfl, h1, h2⟩ := hr
    simp only [List.zip_cons_cons, List.foldl_cons, putL]
    refine putL_rel (fun q hq => hp q (List.mem_cons_of_mem _ hq)) h2 (by simpa using hT) fun t => ?_
    have hlt := hp p List.mem_cons_self
    by_cases e : p = t
    · subst e
      have e1 : upd tm p d p = d := by simp [upd]
      have e2 : (T.setIfInBounds p u).getD p undef = u := by simp [hT, hlt]
      rw [e1, e2]; exact h1
    have e0 : Nat.beq p t = false := by cases h' : Nat.beq p t with
      | false => rfl
      | true => exact absurd (Nat.eq_of_beq_eq_true h') e
    have e1 : upd tm p d t = tm t := by simp [upd, e0]
    have e2 : (T.setIfInBounds p u).getD t undef = T.getD t undef := by simp [Array.getElem?_setIfInBounds_ne e]
    rw [e1, e2]; exact h t
def lsOf : AExit → LoopState
  | .normal => .ready
  | _ => .done
def ljOf : AExit → Option Code
  | .normal => none
  | .ret => some .ret
  | .exit i => some (.exit i)
def isNo : AExit → Bool
  | .normal => true
  | _ => false

def rdQ (id N : Nat) (ps : List Nat) (ca cb : Code) (tm0 : Fr) (K : AV → Store → Prop) : AExit → Fr → Store → Prop := fun e _ st =>
  st[id]? = some (.loop N ps ca cb tm0 .busy none) ∧ K (.bool (isNo e)) (st.set id (.loop N ps ca cb tm0 (lsOf e) (ljOf e)))
def rdA (P : Program) (E : Glob) (id N : Nat) (mu : Nat → Bool) (ps : List Nat) (ca cb : Code) (tm0 : Fr) (b : ACode) (K : AV → Store → Prop) : AExit → Fr → Store → Prop
  | .normal, tm, st => st[id]? = some (.loop N ps ca cb tm0 .ready none) ∧ XS P E N mu b (rdQ id N ps ca cb tm0 K) tm (st.set id (.loop N ps ca cb tm0 .busy none))
  | _, _, _ => False

theorem xyield {P : Program} {E : Glob} {id N : Nat} {mu : Nat → Bool} {ps : List Nat} {ca cb : Code} {a b : ACode} {tm0 : Fr} {ds : List AV} {st : Store} {K : AV → Store → Prop}
    (hin : inR mu = true) (hst : st[id]? = some (.loop N ps ca cb tm0 .ready none)) (hl : ds.length = ps.length) (hp : ∀ p ∈ ps, p < N) (h1 : compC P N mu ca = some a) (h2 : compC P N mu cb = some b)
    (h : XS P E N mu a (rdA P E id N mu ps ca cb tm0 b K) (putL tm0 ps ds) st) : XYield P E id ds st K := by
  intro G w vs hr hs
  have hid : id < G.slots.length := by rw [hs.len]; exact lt_of_getElem? hst
  have hsl : G.slots[id]? = some G.slots[id] := by simp [hid]
  have hob := hs.obj id _ _ hst hsl
  generalize G.slots[id] = s at hob hsl
  cases s <;> simp only [ObjRel] at hob
  rename_i l
  obtain ⟨⟨fn, T, D, k1, k2, k3⟩, k4⟩ := hob
  refine ⟨l, _, hsl, k1, by simp [repL_length hr, hl], ?_⟩
  obtain ⟨q1, q2⟩ := putL_rel hp hr k2 k3
  have hfold : ((ps.toArray.zip vs.toArray).foldl (fun tmps (t, a) => tmps.setIfInBounds t a) T) = (ps.zip vs).foldl (fun tmps (t, a) => tmps.setIfInBounds t a) T := by simp
  have noR : inR mu = false → some l = none := fun e => by rw [hin] at e; cases e
  have hrel : Rel 0 N E G (putL tm0 ps ds) st { tmps := (ps.toArray.zip vs.toArray).foldl (fun tmps (t, a) => tmps.setIfInBounds t a) T, defers := [] } w := by
    rw [hfold]
    exact ⟨q1, Marks.nil G (Nat.zero_le _), q2, hs⟩
  refine roundIn_of_wpIn (F := Fence.wide) trivial ?_
  refine wpIn_mono (F := fen (some l)) (h ca h1 0 (some l) G _ w noR hrel) fun e a' w' ⟨x, tm', st', G', he, hr', hext, hq⟩ => ?_
  rcases he.cases with ⟨rfl, rfl⟩ | ⟨i, rfl, rfl⟩ | ⟨rfl, rfl⟩
  · obtain ⟨hst', hb⟩ := hq
    have hb' : G'.slots[id]? = some (.box l) := by
      rcases hext.g.box _ _ hsl with h' | h'
      · exact h'
      exact absurd (hr'.st.obj _ _ _ hst' h') (by simp [ObjRel])
    obtain ⟨r, m1, m2, m3, m4, m5, m6, m7, m8, s1, e1⟩ := loop_put (s' := .busy) (p' := none) hr'.st hst' hb'
    have erun := run_beginRound (P := P) m1 m2
    have ew : w'.putObj l (.loop { r with state := .busy }) = w'.putObj l (.loop { r with state := .busy, pending := none }) := by rw [← m3]
    refine ⟨_, erun, ?_⟩
    rw [ew]
    have hrel2 : Rel 0 N E _ tm' (st'.set id (.loop N ps ca cb tm0 .busy none)) a' (w'.putObj l (.loop { r with state := .busy, pending := none })) := ⟨hr'.size, hr'.defers.ext e1, hr'.fr.mono e1.g, s1⟩
    refine wpIn_mono (F := fen (some l)) (hb cb h2 0 (some l) _ a' _ noR hrel2) fun e2 a2 w2 ⟨x2, tm2, st2, G2, he2, hr2, hext2, hst2, hK⟩ => ?_
    have hsl1 : (G'.slots.set id (.box l))[id]? = some (.box l) := List.getElem?_set_self (lt_of_getElem? hb')
    have hb2 : G2.slots[id]? = some (.box l) := by
      rcases hext2.g.box _ _ hsl1 with h' | h'
      · exact h'
      exact absurd (hr2.st.obj _ _ _ hst2 h') (by simp [ObjRel])
    have fin : ∀ (j : Option Code) (s : LoopState), s = (if j.isNone then LoopState.ready else .done) → K (.bool j.isNone) (st2.set id (.loop N ps ca cb tm0 s j)) →
        ∃ v w3, (Instr.endRound l j).run P w2 = .ok v w3 ∧ ∃ u x st' G', Ending.returned v = .returned u ∧ Rep G' x u ∧ StoreRel E G' st' w3 ∧ Ext G w G' w3 ∧ K x st' := by
      intro j s hs' hK'
      obtain ⟨r2, n1, n2, n3, n4, n5, n6, n7, n8, s3, e3⟩ := loop_put (s' := s) (p' := j) hr2.st hst2 hb2
      subst hs'
      exact ⟨_, _, run_endRound j n1, _, _, _, _, rfl, by simp only [Rep], s3, hext.trans (e1.trans (hext2.trans e3)), hK'⟩
    rcases he2.cases with ⟨rfl, rfl⟩ | ⟨i, rfl, rfl⟩ | ⟨rfl, rfl⟩
    · exact fin none .ready rfl hK
    · exact fin (some (.exit i)) .done rfl hK
    exact fin (some .ret) .done rfl hK
  · exact hq.elim
  exact hq.elim
def cR (P : Program) (E : Glob) (N : Nat) (mu : List Nat) (fin : AExit → Fr → Store → Prop) : Cx := ⟨P, E, N, rnd (muL mu), [], fun _ _ => True, fin⟩
theorem bR' {P : Program} {E : Glob} {id N : Nat} {mu : List Nat} {ps : List Nat} {ca cb : Code} {a b : ACode} {tm0 : Fr} {ds : List AV} {st : Store} {L : List Asn} {K : AV → Store → Prop}
    (h1 : compC P N (rnd (muL mu)) ca = some a) (h2 : compC P N (rnd (muL mu)) cb = some b) (hs : SH st (pt id (.loop N ps ca cb tm0 .ready none) :: L)) (hl : Nat.beq ds.length ps.length = true) (hp : ps.all (fun p => Nat.blt p N) = true)
    (ha : ∀ st, SH st (pt id (.loop N ps ca cb tm0 .busy none) :: L) → True)
    (h : W (cR P E N mu (rdA P E id N (rnd (muL mu)) ps ca cb tm0 b K)) [.code a] (putL tm0 ps ds) st) : XYield P E id ds st K := by
  refine xyield (inR_rnd _) hs.at0 (Nat.eq_of_beq_eq_true hl) (fun p hp' => ?_) h1 h2 (W.code.1 h)
  have := List.all_eq_true.1 hp p hp'
  exact Nat.le_of_ble_eq_true this
theorem rdW {P : Program} {E : Glob} {id N : Nat} {mu : List Nat} {ps : List Nat} {ca cb : Code} {b : ACode} {tm tm0 : Fr} {st : Store} {L : List Asn} {K : AV → Store → Prop}
    (hs : SH st (pt id (.loop N ps ca cb tm0 .ready none) :: L))
    (h : ∀ st, SH st (pt id (.loop N ps ca cb tm0 .busy none) :: L) → W (cR P E N mu (rdQ id N ps ca cb tm0 K)) [.code b] tm st) : W (cR P E N mu (rdA P E id N (rnd (muL mu)) ps ca cb tm0 b K)) [] tm st :=
  ⟨hs.at0, W.code.1 (h _ (hs.set0 _))⟩
theorem rdN {P : Program} {E : Glob} {id N : Nat} {mu : List Nat} {ps : List Nat} {ca cb : Code} {tm tm0 : Fr} {st : Store} {L : List Asn} {K : AV → Store → Prop}
    (hs : SH st (pt id (.loop N ps ca cb tm0 .busy none) :: L)) (hK : ∀ st, SH st (pt id (.loop N ps ca cb tm0 .ready none) :: L) → K (.bool true) st) : W (cR P E N mu (rdQ id N ps ca cb tm0 K)) [] tm st :=
  ⟨hs.at0, hK _ (hs.set0 _)⟩
theorem rdR {P : Program} {E : Glob} {id N : Nat} {mu : List Nat} {ps : List Nat} {ca cb : Code} {tm tm0 : Fr} {st : Store} {L : List Asn} {K : AV → Store → Prop} {k : List KJ}
    (hs : SH st (pt id (.loop N ps ca cb tm0 .busy none) :: L)) (hK : ∀ st, SH st (pt id (.loop N ps ca cb tm0 .done (some .ret)) :: L) → K (.bool false) st) : W (cR P E N mu (rdQ id N ps ca cb tm0 K)) (.code .ret :: k) tm st :=
  rfin ⟨hs.at0, hK _ (hs.set0 _)⟩
instance (cs : List AV) [h : DtL cs] : DtV (.dptr cs) := ⟨⟨by simp only [AV.data]; exact h.h.1, by simp only [AV.strip]; rw [h.h.2]⟩⟩
instance (f : FuncId) (cs : List AV) [h : DtL cs] : DtV (.fn f cs) := ⟨⟨by simp only [AV.data]; exact h.h.1, by simp only [AV.strip]; rw [h.h.2]⟩⟩
instance : DtV .nilfn := ⟨⟨rfl, rfl⟩⟩
def lsW : Nat → LoopState
  | 0 => .ready
  | _ + 1 => .done
def ljW : List Code → Nat → Option Code
  | _, 0 => none
  | [], _ + 1 => none
  | c :: _, 1 => some c
  | _ :: l, n + 2 => ljW l (n + 1)
theorem ni {p : Prop} [Decidable p] {α : Type} {A B : Option α} {r : α} {Q : Prop} (hF : (if p then A else B) = some r) (h1 : p → A = some r → Q) (h2 : ¬ p → B = some r → Q) : Q := by
  by_cases h : p
  · rw [if_pos h] at hF; exact h1 h hF
  rw [if_neg h] at hF; exact h2 h hF
theorem putL1 {tm : Fr} {l : List (Nat × AV)} (hf : Frm tm l) (p : Nat) (v : AV) : putL tm [p] [v] = updL tm ((p, v) :: l) := by
  show upd tm p v = upd (updL tm l) p v
  rw [Frm.eq hf]
section
variable {X : Cx} {k : List KJ} {tm : Fr} {fr : List (Nat × AV)} {st : Store} {l : List AOp} {d : Nat} {x y i a : AX} {L L' : List Asn}

def RgQ (X : Cx) (k : List KJ) (tm : Fr) (id : Nat) (ps : List Nat) (ca cb : Code) (st : Store) : Prop :=
  ∃ s p, st[id]? = some (.loop X.N ps ca cb tm s p) ∧ s ≠ .busy ∧ (match p with
    | none => wQ X k .normal tm (st.set id .dead)
    | some .ret => wQ X k .ret tm (st.set id .dead)
    | some (.exit i) => wQ X k (.exit i) tm (st.set id .dead)
    | _ => False)
theorem rgN {id : Nat} {ps : List Nat} {ca cb : Code} {s : LoopState} (hs : SH st (pt id (.loop X.N ps ca cb tm s none) :: L)) (hb : s ≠ .busy) (h : ∀ st, SH st L → W X k tm st) : RgQ X k tm id ps ca cb st := ⟨s, none, hs.at0, hb, h _ hs.kill⟩
theorem rgR {id : Nat} {ps : List Nat} {ca cb : Code} {s : LoopState} (hX : ∀ tm st, X.fin .normal tm st = X.fin .ret tm st) (hs : SH st (pt id (.loop X.N ps ca cb tm s (some .ret)) :: L)) (hb : s ≠ .busy) (h : ∀ st, SH st L → W X [] tm st) : RgQ X k tm id ps ca cb st :=
  ⟨s, some .ret, hs.at0, hb, by
    show wQ X k .ret tm _
    rw [wQ_ret, ← hX]
    exact h _ hs.kill⟩
theorem rg {N : Nat} {z : AX} {ps : List Nat} {a b : ACode} {f : FuncId} {caps : List AV} (hN : X.N = N) (hs : SH st L) (hz : (updL tm fr).x z = .fn f caps) (hc : callable X.P f = true)
    (h : ∀ (ca cb : Code) (st : Store) (id : Nat), compC X.P X.N (rnd X.mu) ca = some a → compC X.P X.N (rnd X.mu) cb = some b → SH st (pt id (.loop N ps ca cb (updL tm fr) .ready none) :: L) → XCall X.P X.E f (.yld id :: caps) st fun _ st => RgQ X k (updL tm fr) id ps ca cb st) : W X (.code (.range z ps a b) :: k) (updL tm fr) st := by
  subst hN
  rw [W.code]
  refine XS.of ?_
  simp only [xCode, hz]
  refine ⟨hc, fun ca cb h1 h2 => (h ca cb _ _ h1 h2 (hs.push _)).mono fun v st' ⟨s, p, q1, q2, q3⟩ => ⟨s, p, q1, q2, ?_⟩⟩
  cases p with
  | none => exact q3
  | some c => cases c <;> exact q3
theorem so {id off : Nat} {cs cs' : List AV} {v : AV} (hs : SH st L) (j : Nat) (hp : (updL tm fr).x a = .ptr id off) (hj : L[j]? = some (pt id (.cells cs))) (hx : (updL tm fr).x x = v) (hv : v.cells = [v] ∧ v.one = true) (hb : Nat.ble (off + 1) cs.length = true) (hc : cs.take off ++ [v] ++ cs.drop (off + 1) = cs')
    (hL : setL L j (pt id (.cells cs')) = some L') (hk : ∀ st, SH st L' → W X (.ops l :: k) (updL tm fr) st) : W X (.ops (⟨.none, .none, .plain (.store 1 a x)⟩ :: l) :: k) (updL tm fr) st := by
  refine sr hs j hp hj ?_ (by rw [hx, hv.1]; exact hc) hL hk
  rw [hx]
  simp only [stOk, hv.1, List.all_cons, hv.2, List.all_nil, Bool.and_true, hb]
  rfl
theorem rvV_c {α : Type} {es : Nat} {o : Sl α} {id : Nat} : (rvV es o id).cells = [rvV es o id] ∧ (rvV es o id).one = true := by cases o <;> exact ⟨rfl, rfl⟩
theorem ownV_c {α : Type} {es : Nat} {f : α → AV} {o : Sl α} {id : Nat} : (ownV es f o id).cells = [ownV es f o id] ∧ (ownV es f o id).one = true := by cases o <;> exact ⟨rfl, rfl⟩
theorem cy {f : AX} {id : Nat} {xs : List AX} {ds : List AV} (hf : (updL tm fr).x f = .yld id) (ha : xs.map (updL tm fr).x = ds) (h : XYield X.P X.E id ds st fun v st => W X (.ops l :: k) (updL tm ((d, v) :: fr)) st) : W X (.ops (⟨.some d, .none, .callv f xs⟩ :: l) :: k) (updL tm fr) st := by
  subst ha
  rw [W.ops, xOps_callv, hf, XCV_yld]
  refine h.mono fun v st' hw => ?_
  rw [put_upd]; exact W.ops.1 hw
theorem cvd {f : AX} {g : FuncId} {caps : List AV} {xs : List AX} {ds : List AV} {v : AV} (hf : (updL tm fr).x f = .fn g caps) (hc : callable X.P g = true) (h : DFun X.P X.E g ds v) [hd : DtL ds] (ha : xs.map (updL tm fr).x ++ caps = ds) (hk : W X (.ops l :: k) (updL tm ((d, v) :: fr)) st) : W X (.ops (⟨.some d, .none, .callv f xs⟩ :: l) :: k) (updL tm fr) st := by
  rw [W.ops] at hk ⊢
  rw [xOps_callv, hf, XCV_fn]
  exact ⟨hc, xc_fun h (by rw [ha]; exact hd.h.1) (by rw [ha]; exact hd.h.2) (by rw [put_upd]; exact hk)⟩
theorem e_boxD {E : Glob} {n : Nat} {cs : List AV} (h : (tm.x x).cells = cs) (hn : Nat.beq cs.length n = true) (h1 : cs.all AV.one = true) : evalAI E tm st (.boxD n x) = some (.dptr cs, st) := by
  subst h
  simp only [evalAI]
  rw [if_pos ⟨Nat.eq_of_beq_eq_true hn, h1⟩]
end

theorem e_bslG {α : Type} {E : Glob} {tm : Fr} {st : Store} {es len : Nat} {ag : Bool} {zero : List AV} {parts : List (Nat × Nat × AX)} {ps : List (Nat × List AV)} {f : α → AV} {c : α → List AV} (m : List α)
    (hp : partsOk (len * es) parts tm = some ps) (hps : ps = plc es 0 (m.map c)) (hz : zero.length = es) (hc : ∀ x, (c x).length = es) (h1 : ∀ x, (c x).all AV.one = true) (hf : ∀ x, ofCells ag (c x) = f x) (hl : m.length = len) : evalAI E tm st (.bslD es len ag zero parts) = some (slV es f (some m), st) := by
  subst hl
  have e1 : fillA (rep0 zero m.length) ps = m.flatMap c := by
    have := fill_plc hz (m.map c) [] (by intro y hy; obtain ⟨x, _, rfl⟩ := List.mem_map.1 hy; exact hc x)
    rw [List.length_map] at this
    rw [hps]
    simpa [List.flatMap_def] using this
  simp only [evalAI, hp]
  have e2 : (m.flatMap c).all AV.one = true := by
    simp only [List.all_flatMap]
    exact List.all_eq_true.2 fun z _ => h1 z
  rw [e1, if_pos e2, chunks_flat hc hf m]
  rfl
theorem frz_cell {E : Glob} {G : Gh} {st : Store} {w : World} {id1 id2 off es : Nat} {cs : List AV} {α : Type} {c : α → List AV} {g : α → AV} {l : List α} (hs : StoreRel E G st w) (h1 : st[id1]? = some (.cells cs)) (hk : cs[off]? = some (.row id2 es 0 l.length)) (h2 : st[id2]? = some (.cells (l.flatMap c)))
    (hes : 0 < es) (hc : ∀ x, (c x).length = es) (ha : ∀ x, (c x).all AV.one = true) (hf : ∀ x, ofCells (!(es == 1)) (c x) = g x) (hg : ∀ x, DS (g x) (g x)) (hne : id1 ≠ id2) :
    ∃ G', StoreRel E G' ((st.set id2 AObj.dead ++ [AObj.tail l.length]).set id1 (.cells (cs.set off (slV es g (some l))))) w ∧ Ext G w G' w := by
  have hid1 : id1 < G.slots.length := by rw [hs.len]; exact lt_of_getElem? h1
  have hsl : G.slots[id1]? = some G.slots[id1] := by simp [hid1]
  have hob := hs.obj id1 _ _ h1 hsl
  generalize G.slots[id1] = s at hob hsl
  cases s <;> simp only [ObjRel] at hob
  rename_i b
  obtain ⟨⟨arr, e, fz, p1, p2, p3, p4⟩, p5⟩ := hob
  obtain ⟨u, hu, hru⟩ := repL_get p3 off _ hk
  have hl : (l.flatMap c).length = l.length * es := flat_len hc l
  have hall : (l.flatMap c).all AV.one = true := by
    simp only [List.all_flatMap]; exact List.all_eq_true.2 fun z _ => ha z
  obtain ⟨G2, s2, x2, r2⟩ := freeze_row hs hru h2 hl hes hall
  have e2 : (chunks es l.length (l.flatMap c)).map (ofCells (!(es == 1))) = l.map g := chunks_flat hc hf l
  rw [e2] at r2
  have hd : DS (.sl es (l.map g) (some st.length)) (slV es g (some l)) := ds_rd hg (.inr ⟨l, some st.length, rfl, rfl⟩)
  have r3 := strip_rep (G := G2) (G' := G2) (fun _ _ _ h => h) hd.1 r2
  rw [hd.2] at r3
  have hst1 : (st.set id2 AObj.dead ++ [AObj.tail l.length])[id1]? = some (.cells cs) := by
    rw [List.getElem?_append_left (by rw [List.length_set]; exact lt_of_getElem? h1), List.getElem?_set_ne hne.symm]; exact h1
  have hb2 : G2.slots[id1]? = some (.box b) := by
    rcases x2.g.box _ _ hsl with h' | h'
    · exact h'
    exact absurd (s2.obj _ _ _ hst1 h') (by simp [ObjRel])
  refine ⟨G2, re_obj s2 hb2 ?_, x2⟩
  obtain ⟨⟨arr', e', fz', q1, q2, q3, q4⟩, q5⟩ := s2.obj _ _ _ hst1 hb2
  rw [p1] at q1; cases q1
  refine ⟨⟨arr, e, fz, p1, by simpa using p2, ?_, p4⟩, q5⟩
  have := repL_set off q3 r3
  rw [List.length_set]
  have e3 : (arr.toList.take cs.length).set off u = arr.toList.take cs.length := by
    refine List.ext_getElem? fun i => ?_
    by_cases e : off = i
    · subst e; rw [List.getElem?_set_self (lt_of_getElem? hu), hu]
    rw [List.getElem?_set_ne e]
  rw [e3] at this; exact this
theorem XS.same {P : Program} {E : Glob} {N : Nat} {mu : Nat → Bool} {b : ACode} {Q : AExit → Fr → Store → Prop} {tm : Fr} {st st' : Store} (hs : ∀ G w, StoreRel E G st w → ∃ G', StoreRel E G' st' w ∧ Ext G w G' w) (h : XS P E N mu b Q tm st') : XS P E N mu b Q tm st := fun c hc B ro G a w hro hr => by
  obtain ⟨G', s', x'⟩ := hs G w hr.st
  exact wpIn_mono (h c hc B ro G' a w hro (hr.ext x' s')) fun e a' w' ⟨x, tm', st2, G2, q1, q2, q3, q4⟩ => ⟨x, tm', st2, G2, q1, q2, x'.trans q3, q4⟩
theorem frz {X : Cx} {k : List KJ} {tm : Fr} {st : Store} {x : ACode} {L : List Asn} {id1 id2 off es : Nat} {cs cs' : List AV} {α : Type} {c : α → List AV} {g : α → AV} [hg : DtF g] {o : Sl α} (hs : SH st (pt id1 (.cells cs) :: rvA c id2 o :: L)) (hk : cs[off]? = some (rvV es o id2)) (hc' : cs.set off (slV es g o) = cs')
    (hes : Nat.ble 1 es = true) (hc : ∀ x, (c x).length = es) (h1 : ∀ x, (c x).all AV.one = true) (hf : ∀ x, ofCells (!(es == 1)) (c x) = g x) (h : ∀ st, SH st (pt id1 (.cells cs') :: L) → W X (.code x :: k) tm st) : W X (.code x :: k) tm st := by
  subst hc'
  cases o with
  | none =>
    refine h st ?_
    have e : cs.set off (slV es g none) = cs := by
      refine List.ext_getElem? fun i => ?_
      by_cases e : off = i
      · subst e; rw [List.getElem?_set_self (lt_of_getElem? hk), hk]; rfl
      rw [List.getElem?_set_ne e]
    rw [e]
    obtain ⟨a, b, q1, ⟨a', b', q2, q3, q4, q5⟩, q6, q7⟩ := hs
    refine ⟨a, b, q1, ?_, q6, q7⟩
    refine starL_congr (fun i => ?_) q3
    rw [q5 i, PH.or_r (q2 i)]
  | some l =>
    have hne : id1 ≠ id2 := by
      obtain ⟨a, b, q1, ⟨a', b', q2, q3, q4, q5⟩, q6, q7⟩ := hs
      intro e
      subst e
      have e1 : a id1 = some (.cells cs) := by rw [q1 id1, if_pos rfl]
      have e2 : b id1 = some (.cells (l.flatMap c)) := by rw [q5 id1]; exact PH.or_l (by rw [q2 id1, if_pos rfl])
      rcases q6 id1 with e3 | e3
      · rw [e1] at e3; cases e3
      rw [e2] at e3; cases e3
    have g1 : st[id1]? = some (.cells cs) := hs.g 0 rfl
    have g2 : st[id2]? = some (.cells (l.flatMap c)) := hs.g 1 rfl
    have hlt1 := lt_of_getElem? g1
    have h3 : SH (st.set id2 AObj.dead) (pt id1 (.cells cs) :: L) := by
      have := SH.set hs (j := 1) (id := id2) rfl .dead
      exact this.p 2 [0] rfl
    have h4 : SH (st.set id2 AObj.dead ++ [AObj.tail l.length]) (pt id1 (.cells cs) :: L) := (h3.push (.tail l.length)).tail
    have h5 := h4.set0 (.cells (cs.set off (slV es g (some l))))
    have h6 := h _ h5
    rw [W.code] at h6 ⊢
    exact XS.same (fun G w hr => frz_cell hr g1 hk g2 (Nat.le_of_ble_eq_true hes) hc h1 hf hg.h hne) h6
theorem frzO {X : Cx} {k : List KJ} {tm : Fr} {st : Store} {x : ACode} {L : List Asn} {id1 id2 off es : Nat} {cs cs' : List AV} {α : Type} {g : α → AV} [hg : DtF g] {o : Sl α} (hs : SH st (pt id1 (.cells cs) :: ownA id2 o :: L)) (hk : cs[off]? = some (ownV es g o id2)) (hc' : cs.set off (slV es g o) = cs')
    (h : ∀ st, SH st (pt id1 (.cells cs') :: L) → W X (.code x :: k) tm st) : W X (.code x :: k) tm st := by
  subst hc'
  have g1 : st[id1]? = some (.cells cs) := hs.g 0 rfl
  have h1 : SH st (pt id1 (.cells cs) :: L) := by
    obtain ⟨a, b, q1, ⟨a', b', q2, q3, q4, q5⟩, q6, q7⟩ := hs
    exact ⟨a, b, q1, starL_congr (fun i => (PH.or_comm q4 i).symm.trans (q5 i).symm) (starL_mono q4.symm q3), q6, q7⟩
  have h6 := h _ (h1.set0 (.cells (cs.set off (slV es g o))))
  rw [W.code] at h6 ⊢
  refine XS.same (fun G w hr => ⟨G, ?_, Ext.refl G w⟩) h6
  have hid1 : id1 < G.slots.length := by rw [hr.len]; exact lt_of_getElem? g1
  have hsl : G.slots[id1]? = some G.slots[id1] := by simp [hid1]
  have hob := hr.obj id1 _ _ g1 hsl
  generalize G.slots[id1] = s at hob hsl
  cases s <;> simp only [ObjRel] at hob
  rename_i b
  obtain ⟨⟨arr, e, fz, p1, p2, p3, p4⟩, p5⟩ := hob
  obtain ⟨u, hu, hru⟩ := repL_get p3 off _ hk
  have hd : DS (ownV es g o id2) (slV es g o) := ds_own hg.h
  have r3 := strip_rep (G := G) (G' := G) (fun _ _ _ h => h) hd.1 hru
  rw [hd.2] at r3
  refine re_obj hr hsl ⟨⟨arr, e, fz, p1, by simpa using p2, ?_, p4⟩, p5⟩
  have := repL_set off p3 r3
  rw [List.length_set]
  have e3 : (arr.toList.take cs.length).set off u = arr.toList.take cs.length := by
    refine List.ext_getElem? fun i => ?_
    by_cases e : off = i
    · subst e; rw [List.getElem?_set_self (lt_of_getElem? hu), hu]
    rw [List.getElem?_set_ne e]
  rw [e3] at this; exact this
theorem e_faddrH {E : Glob} {tm : Fr} {st : Store} {x : AX} {id o off : Nat} (hp : tm.x x = .ptr id o) (ho : st[id]? = some .hid) : evalAI E tm st (.faddr off x) = some (.ptr id (o + off), st) := by
  simp only [evalAI, hp, alive, ho, if_true]
theorem e_ixT {E : Glob} {tm : Fr} {st : Store} {x i : AX} {len : Nat} {k : IntKind} {n : Int} {m : Nat} {cs : List AV} {v : AV} (hx : tm.x x = .agg cs) (hi : tm.x i = .int k n) (hn : n = (m : Int)) (hm : Nat.blt m len = true) (hc : cs[m]? = some v) : evalAI E tm st (.ixA1 len 1 x i) = some (v, st) := by
  subst hn
  refine e_ixA1 hx hi ⟨Int.natCast_nonneg _, by exact_mod_cast Nat.le_of_ble_eq_true hm⟩ ?_
  have hlt := (List.getElem?_eq_some_iff.1 hc).1
  refine ⟨cs.take m, cs.drop (m + 1), ?_, ?_, by simp; omega⟩ <;>
  · have e : cs[m] = v := (List.getElem?_eq_some_iff.1 hc).2
    rw [← e]
    simp
end Go.Proofs.Ytjbafmnocopofaa.AW
end
section
namespace Go.Proofs.Ytjbafmnocopofaa.AW
open Go Go.RowKit Go.WideShapes Go.ChangeShapes Go.Deep
structure RdF {H : Type} {α : Type} (n : Nat) (enc : TypeId × Value → H) (P : Program) (W : World) (base : Nat) (t : TypeId) (c : α → List AV) (ok : α → Prop) (bk : α → Nat) : Prop where
  rd : ∀ {fuel : Nat} {cs : List Value} {x : DataW H × List MemPlace}, fuel ≤ n → DataW.trod enc P W base (fun _ => true) true fuel t cs = some x →
    ∃ a, RepL (G0 W) (c a) cs ∧ (∀ u ∈ cs, u.oneCell' = true) ∧ ok a ∧ bk a ≤ Rows.uptoBulk x.1
section
variable {H : Type} {enc : TypeId × Value → H} {P : Program} {W : World} {base : Nat} {t : TypeId} {n : Nat}
theorem RdF.all {α : Type} {c : α → List AV} {ok : α → Prop} {bk : α → Nat} (h : ∀ n, RdF n enc P W base t c ok bk) : RdOk enc P W base t c ok bk := ⟨fun {fuel cs x} e => (h fuel).rd (Nat.le_refl _) e⟩
theorem RdOk.fu {α : Type} {c : α → List AV} {ok : α → Prop} {bk : α → Nat} (h : RdOk enc P W base t c ok bk) : RdF n enc P W base t c ok bk := ⟨fun _ e => h.rd e⟩
theorem rfI {k : IntKind} (ht : P.underlying t = some (.int k)) : RdF n enc P W base t (cI k) (okI k) bk1 := (rdI ht).fu
def okA {n : Nat} (k : IntKind) (a : Arr n Int) : Prop := ∀ y ∈ a.l, okI k y
theorem bulk_pos (d : DataW H) : 1 ≤ Rows.uptoBulk d := by
  cases d with
  | lit l => cases l <;> simp [Rows.uptoBulk]
  | nil => simp [Rows.uptoBulk]
  | ptr d => simp [Rows.uptoBulk]
  | slice elems spare => simp [Rows.uptoBulk]
  | agg parts => simp [Rows.uptoBulk]
  | iface t d => simp [Rows.uptoBulk]
  | map entries => simp [Rows.uptoBulk]
  | held h => simp [Rows.uptoBulk]
theorem rfA {e : TypeId} {m : Nat} {k : IntKind} {c : Arr m Int → List AV} (hc' : ∀ a, c a = cA (cI k) a) (ht : P.underlying t = some (.array m e)) (he : P.underlying e = some (.int k)) (hc : P.cellsOf e = 1) (hct : P.cellsOf t = m) : RdF n enc P W base t c (okA k) bk1 := ⟨fun {fuel cs x} _ h => by
  obtain ⟨l, hl, rfl, hw⟩ := open_arr ht he hc hct h
  refine ⟨⟨l, hl⟩, ?_, ?_, hw, bulk_pos _⟩
  · rw [hc']; exact repl_ints k l
  intro u hu
  obtain ⟨z, _, rfl⟩ := List.mem_map.1 hu
  rfl⟩
theorem rfSl {α : Type} {e : TypeId} {es : Nat} {c : α → List AV} {ok : α → Prop} {bk : α → Nat} {f : α → AV} (ht : P.underlying t = some (.slice e)) (hc : P.cellsOf e = es) (hes : 0 < es)
    (re : RdF n enc P W base e c ok bk) (hf : ∀ a us, RepL (G0 W) (c a) us → us.length = es → ∃ u : Value, Rep (G0 W) (f a) u ∧ u.cells.toList = us) : RdF (n + 1) enc P W base t (cSl es f) (fun o => ∀ x ∈ ls o, ok x) (bkSl bk) := ⟨fun {fuel cs x} hle hfu => by
  rcases DataW.trod_slice ht hfu with ⟨hcs, hx⟩ | ⟨a, len, cap, elems, rest, n0, hfuel, hcs, hd, hb, hl, hcm, hlen, hel, hsp0, _⟩
  · subst hcs
    cases hx
    exact ⟨none, by simp only [cSl, slV, RepL, Rep]; exact ⟨_, _, rfl, rfl, rfl⟩, by simp [Value.oneCell'], fun _ h => by simp [ls] at h, by simp [bkSl, ls, Rows.uptoBulk]⟩
  subst hcs
  cases hd
  obtain ⟨b, off, spot⟩ := a
  have hspot : spot = none ∨ cap = 0 := by
    by_cases hcap : cap = 0
    · exact .inr hcap
    left
    have h0 : ∃ y, (W.cells? base ((⟨b, off, spot⟩ : Addr).add (0 * P.cellsOf e)) (P.cellsOf e)).bind (DataW.trod enc P W base (fun _ => true) true n0 e) = some y := by
      by_cases hl0 : 0 < len
      · have := hel 0 hl0
        rw [this]
        exact ⟨elems[0]'(by omega), by simp⟩
      obtain ⟨hr1, hr2⟩ := hsp0 rfl
      have := hr2 0 (by omega)
      have e0 : len + 0 = 0 := by omega
      rw [e0] at this
      rw [this]
      exact ⟨rest[0]'(by omega), by simp⟩
    obtain ⟨y, hy⟩ := h0
    obtain ⟨cs', h1, _⟩ := Option.bind_eq_some_iff.1 hy
    obtain ⟨_, hlen', hce⟩ := World.cells?_some h1
    have := hce 0 (by omega)
    have h2 : (((⟨b, off, spot⟩ : Addr).add (0 * P.cellsOf e)).add 0) = ⟨b, off, spot⟩ := by simp [Addr.add]
    rw [h2] at this
    have h3 : cs'[0]? = some (cs'[0]'(by omega)) := by simp
    rw [h3] at this
    exact World.cell?_spot this
  obtain ⟨l, hll, hq⟩ := ex_list (Q := fun i (y : α) => ∃ us : List Value, RepL (G0 W) (c y) us ∧ us.length = es ∧ (∀ j z, us[j]? = some z → M0 W b (off + i * es + j) = some z) ∧ ok y ∧ bk y ≤ Rows.uptoBulk ((elems.getD i (.nil, [])).1)) len fun i hi => by
    have hcap : ¬ cap = 0 := by omega
    obtain rfl : spot = none := hspot.resolve_right hcap
    have h0 := hel i hi
    have h3 : elems[i]? = some (elems[i]'(by omega)) := by simp
    rw [h3] at h0
    obtain ⟨cs', h1, h2⟩ := Option.bind_eq_some_iff.1 h0
    rw [hc] at h1
    obtain ⟨_, hlen', hce⟩ := World.cells?_some h1
    obtain ⟨y, y1, y2, y3, y4⟩ := re.rd (by omega) h2
    refine ⟨y, cs', y1, hlen', fun j z hz => ?_, y3, by simpa [List.getD, h3] using y4⟩
    have hj : j < es := by have := lt_of_getElem? hz; omega
    have := hce j hj
    rw [hz] at this
    have e2 : ((⟨b, off, none⟩ : Addr).add (i * es)).add j = ⟨b, off + i * es + j, none⟩ := by rw [addr_add, addr_add]
    rw [e2] at this
    exact M0_some this (y2 z (List.mem_of_getElem? hz))
  refine ⟨some l, ?_, by simp [Value.oneCell'], ?_, ?_⟩
  · have hr : Rep (G0 W) (slV es f (some l)) (.slice (some ⟨b, off, spot⟩) len cap) := by
      simp only [slV, Rep]
      refine ⟨b, off, cap, reps_list l off fun i y hy => ?_, by simp; omega, trivial, spot, hspot.imp_right fun h => ⟨h, trivial⟩, by simp; omega⟩
      obtain ⟨us, u1, u2, u3, _, _⟩ := hq i y hy
      obtain ⟨u, w1, w2⟩ := hf y us u1 u2
      refine ⟨u, w1, by have := congrArg List.length w2; simpa [u2] using this, fun j z hz => u3 j z ?_⟩
      rw [← w2]; simpa using hz
    simp only [cSl]
    exact repl_cons hr repl_nil
  · intro y hy
    obtain ⟨i, hi⟩ := List.getElem?_of_mem hy
    obtain ⟨_, _, _, _, h4, _⟩ := hq i y hi
    exact h4
  have := sum_le (bk := bk) (D := fun i => (elems.getD i (.nil, [])).1) l 0 fun i y hy => by
    obtain ⟨_, _, _, _, _, h5⟩ := hq i y hy
    simpa using h5
  have e3 : (List.range l.length).map (fun i => (elems.getD (0 + i) (.nil, [])).1) = elems.map (·.1) := by
    apply List.ext_getElem?
    intro i
    simp only [List.getElem?_map, hll, Nat.zero_add]
    by_cases hi : i < len
    · rw [List.getElem?_range hi]
      have h3 : elems[i]? = some (elems[i]'(by omega)) := by simp
      simp [List.getD, h3]
    rw [List.getElem?_eq_none (by simp; omega), List.getElem?_eq_none (by omega)]
    rfl
  rw [e3] at this
  simp only [bkSl, ls, Option.getD_some, Rows.uptoBulk]
  omega⟩
structure RdT {γ : Type} (n : Nat) (enc : TypeId × Value → H) (P : Program) (W : World) (base : Nat) (fs : Array Field) (i o m : Nat) (c : γ → List AV) (ok : γ → Prop) (bk : γ → Nat) : Prop where
  rd : ∀ {n0 : Nat} {cs : List Value} {xs : List (DataW H × List MemPlace)}, n0 ≤ n → cs.length = m → xs.length = fs.size → (∀ (i : Nat) (f : Field), fs[i]? = some f → DataW.trod enc P W base (fun _ => true) true n0 f.type ((cs.drop f.offset).take (P.cellsOf f.type)) = xs[i]?) →
    ∃ a, RepL (G0 W) (c a) (cs.drop o) ∧ (∀ u ∈ cs.drop o, u.oneCell' = true) ∧ ok a ∧ bk a ≤ Rows.uptoBulkAll ((xs.drop i).map (·.1))
theorem rtNil {fs : Array Field} {m i : Nat} : RdT n enc P W base fs i m m (fun _ : Unit => []) (fun _ => True) (fun _ => 0) := ⟨fun _ hl _ _ => ⟨(), by rw [List.drop_of_length_le (by omega)]; exact repl_nil, by rw [List.drop_of_length_le (by omega)]; simp, trivial, Nat.zero_le _⟩⟩
theorem rtCons {fs : Array Field} {m i o o' : Nat} {f : Field} {α γ : Type} {c : α → List AV} {ok : α → Prop} {bk : α → Nat} {c' : γ → List AV} {ok' : γ → Prop} {bk' : γ → Nat} (hf : fs[i]? = some f) (ho : f.offset = o) (ho' : o + P.cellsOf f.type = o')
    (h : RdF n enc P W base f.type c ok bk) (h' : RdT n enc P W base fs (i + 1) o' m c' ok' bk') : RdT n enc P W base fs i o m (fun a : α × γ => c a.1 ++ c' a.2) (fun a => ok a.1 ∧ ok' a.2) (fun a => bk a.1 + bk' a.2) := ⟨fun {n0 cs xs} hn hl hx each => by
  have hi : i < fs.size := (Array.getElem?_eq_some_iff.1 hf).1
  have h0 := each i f hf
  have hxi : xs[i]? = some (xs[i]'(by omega)) := by simp
  rw [hxi, ho] at h0
  obtain ⟨a, a1, a2, a3, a4⟩ := h.rd hn h0
  obtain ⟨b, b1, b2, b3, b4⟩ := h'.rd hn hl hx each
  have e : cs.drop o = (cs.drop o).take (P.cellsOf f.type) ++ cs.drop o' := by
    rw [← ho', ← List.drop_drop, List.take_append_drop]
  refine ⟨(a, b), ?_, ?_, ⟨a3, b3⟩, ?_⟩
  · rw [e]; exact repL_append a1 b1
  · intro u hu
    rw [e] at hu
    rcases List.mem_append.1 hu with k | k
    · exact a2 u k
    exact b2 u k
  have e2 : xs.drop i = xs[i]'(by omega) :: xs.drop (i + 1) := List.drop_eq_getElem_cons (by omega)
  rw [e2, List.map_cons, Rows.uptoBulkAll]
  exact Nat.add_le_add a4 b4⟩
theorem rfT {fs : Array Field} {m : Nat} {γ δ : Type} {c : γ → List AV} {ok : γ → Prop} {bk : γ → Nat} {c' : δ → List AV} {ok' : δ → Prop} {bk' : δ → Nat} (mk : γ → δ) (ht : P.underlying t = some (.struct fs)) (hm : P.cellsOf t = m) (h : RdT n enc P W base fs 0 0 m c ok bk)
    (hc : ∀ a, c' (mk a) = c a) (hok : ∀ a, ok a → ok' (mk a)) (hbk : ∀ a, bk' (mk a) ≤ bk a + 1) : RdF (n + 1) enc P W base t c' ok' bk' := ⟨fun {fuel cs x} hle hfu => by
  obtain ⟨xs, n0, hfuel, rfl, hlen, hxl, each⟩ := DataW.trod_struct ht hfu
  obtain ⟨a, a1, a2, a3, a4⟩ := h.rd (by omega) (by omega) hxl each
  rw [List.drop_zero] at a1 a2
  rw [List.drop_zero] at a4
  refine ⟨mk a, by rw [hc]; exact a1, a2, hok a a3, ?_⟩
  have := hbk a
  simp only [Rows.uptoBulk]
  omega⟩
theorem RdF.mono {α : Type} {c : α → List AV} {ok : α → Prop} {bk : α → Nat} {m : Nat} (h : RdF n enc P W base t c ok bk) (hm : m ≤ n) : RdF m enc P W base t c ok bk := ⟨fun hle e => h.rd (Nat.le_trans hle hm) e⟩
theorem arg_agg {α : Type} {c : α → List AV} {ok : α → Prop} {bk : α → Nat} {v : Value} {d : DataW H} {ps : List MemPlace} (hv : ∃ cs, v = .agg cs) (re : RdOk enc P W base t c ok bk) (h : DataW.Trod enc P W base (fun _ => true) true t v d ps) :
    ∃ a, Rep (G0 W) (.agg (c a)) v ∧ ok a ∧ bk a ≤ Rows.uptoBulk d := by
  obtain ⟨cs, rfl⟩ := hv
  obtain ⟨fuel, hfu⟩ := h
  obtain ⟨a, h1, h2, h3, h4⟩ := re.rd hfu
  refine ⟨a, ?_, h3, h4⟩
  simp only [Rep]
  exact ⟨cs.toList, h1, by simp⟩
theorem okWide_st {t : TypeId} {fs : Array Field} {r : Reach} {b0 : Nat} {v : Value} (ht : P.underlying t = some (.struct fs)) (hval : Value.okWide P W r b0 t v) : ∃ cs, v = .agg cs := by
  simp only [Value.okWide, ht] at hval
  obtain ⟨cs, h, _⟩ := hval
  exact ⟨cs, h⟩
end
end Go.Proofs.Ytjbafmnocopofaa.AW
end
section
namespace Go.Proofs.Ytjbafmnocopofaa.AW
open Go

section
variable {X : Cx} {k : List KJ} {tm : Fr} {fr : List (Nat × AV)} {st : Store} {l suf : List AOp} {d : Nat} {st0 : Store} {mr r : Nat} {L L' : List Asn}
end
end Go.Proofs.Ytjbafmnocopofaa.AW
end
section
set_option maxRecDepth 4000
set_option maxHeartbeats 4000000
namespace Go.Proofs.Ytjbafmnocopofaa
open Go AW
attribute [local irreducible] W WD SH XS XLoop DFun XCall XYield
def c24 (a : Arr 4 Int) : List AV := cF (cI .u64) 0 a.l 4 0
theorem c24_len (a : Arr 4 Int) : (c24 a).length = 4 := rfl
instance (a : Arr 4 Int) : DtL (c24 a) := by unfold c24; infer_instance
theorem c24_one (a : Arr 4 Int) : (c24 a).all AV.one = true := rfl
def v24 (x : Arr 4 Int) : AV := .agg (c24 x)
instance (x : Arr 4 Int) : DtV (v24 x) := ⟨ds_agg (inferInstance : DtL (c24 x)).h⟩
instance : DtF v24 := ⟨fun x => (inferInstance : DtV (v24 x)).h⟩
theorem c24_eq : EqC [.i, .i, .i, .i] c24 := eqC_F (eqC_I .u64) rfl
structure T27 where
 Kind : Int
 Set : Arr 4 Int
 Min : Int
 Max : Int
 Group : Int
 Kids : Option (List T27)
mutual
def c27 : T27 → List AV
 | ⟨x0, x1, x2, x3, x4, x5⟩ => (cI .u8) x0 ++ (c24 x1 ++ ((cI .i64) x2 ++ ((cI .i64) x3 ++ ((cI .i64) x4 ++ ([kk27 x5])))))
def kk27 : Option (List T27) → AV
 | none => .nils
 | some l => .sl 9 (ll27 l) none
def ll27 : List T27 → List AV
 | [] => []
 | x :: l => .agg (c27 x) :: ll27 l
end
def v27 (x : T27) : AV := .agg (c27 x)
theorem ll27_map : ∀ l : List T27, ll27 l = l.map v27
 | [] => by rw [ll27]; rfl
 | x :: l => by rw [ll27, ll27_map l]; rfl
theorem kk27_sl (o : Option (List T27)) : kk27 o = slV 9 v27 o := by
 cases o with
 | none => rw [kk27]; rfl
 | some l => rw [kk27, ll27_map]; rfl
theorem c27_eq (x : T27) : c27 x = (cI .u8) x.Kind ++ (c24 x.Set ++ ((cI .i64) x.Min ++ ((cI .i64) x.Max ++ ((cI .i64) x.Group ++ ((cSl 9 v27) x.Kids))))) := by
 obtain ⟨x0, x1, x2, x3, x4, x5⟩ := x
 rw [c27, kk27_sl]
 rfl
theorem c27_len (x : T27) : (c27 x).length = 9 := by rw [c27_eq]; simp only [List.length_append, (cI_len .i64), (cI_len .u8), c24_len, cSl_len]
theorem c27_one (x : T27) : (c27 x).all AV.one = true := by rw [c27_eq]; exact (one_app ((cI_one .u8) x.Kind) (one_app (c24_one x.Set) (one_app ((cI_one .i64) x.Min) (one_app ((cI_one .i64) x.Max) (one_app ((cI_one .i64) x.Group) (cSl_one x.Kids))))))
theorem lrg27_Kind (x : T27) : LR (c27 x) 0 ((cI .u8) x.Kind) ((cI .u8) x.Kind) (c27 x) :=
 ⟨[], c24 x.Set ++ ((cI .i64) x.Min ++ ((cI .i64) x.Max ++ ((cI .i64) x.Group ++ ((cSl 9 v27) x.Kids)))), by rw [c27_eq]; simp only [List.append_assoc, List.nil_append, List.append_nil], by rw [c27_eq]; simp only [List.append_assoc, List.nil_append, List.append_nil], by simp only [List.length_append, List.length_nil, (cI_len .i64), (cI_len .u8), c24_len, cSl_len]⟩
theorem lr27_Kind (x : T27) (v : Int) : LR (c27 x) 0 ((cI .u8) x.Kind) ((cI .u8) v) (c27 { x with Kind := v }) :=
 ⟨[], c24 x.Set ++ ((cI .i64) x.Min ++ ((cI .i64) x.Max ++ ((cI .i64) x.Group ++ ((cSl 9 v27) x.Kids)))), by rw [c27_eq]; simp only [List.append_assoc, List.nil_append, List.append_nil], by rw [c27_eq]; simp only [List.append_assoc, List.nil_append, List.append_nil], by simp only [List.length_append, List.length_nil, (cI_len .i64), (cI_len .u8), c24_len, cSl_len]⟩
theorem lrg27_Set (x : T27) : LR (c27 x) 1 (c24 x.Set) (c24 x.Set) (c27 x) :=
 ⟨(cI .u8) x.Kind, (cI .i64) x.Min ++ ((cI .i64) x.Max ++ ((cI .i64) x.Group ++ ((cSl 9 v27) x.Kids))), by rw [c27_eq]; simp only [List.append_assoc, List.nil_append, List.append_nil], by rw [c27_eq]; simp only [List.append_assoc, List.nil_append, List.append_nil], by simp only [List.length_append, List.length_nil, (cI_len .i64), (cI_len .u8), c24_len, cSl_len]⟩
theorem lr27_Set (x : T27) (v : Arr 4 Int) : LR (c27 x) 1 (c24 x.Set) (c24 v) (c27 { x with Set := v }) :=
 ⟨(cI .u8) x.Kind, (cI .i64) x.Min ++ ((cI .i64) x.Max ++ ((cI .i64) x.Group ++ ((cSl 9 v27) x.Kids))), by rw [c27_eq]; simp only [List.append_assoc, List.nil_append, List.append_nil], by rw [c27_eq]; simp only [List.append_assoc, List.nil_append, List.append_nil], by simp only [List.length_append, List.length_nil, (cI_len .i64), (cI_len .u8), c24_len, cSl_len]⟩
theorem lrg27_Min (x : T27) : LR (c27 x) 5 ((cI .i64) x.Min) ((cI .i64) x.Min) (c27 x) :=
 ⟨(cI .u8) x.Kind ++ (c24 x.Set), (cI .i64) x.Max ++ ((cI .i64) x.Group ++ ((cSl 9 v27) x.Kids)), by rw [c27_eq]; simp only [List.append_assoc, List.nil_append, List.append_nil], by rw [c27_eq]; simp only [List.append_assoc, List.nil_append, List.append_nil], by simp only [List.length_append, List.length_nil, (cI_len .i64), (cI_len .u8), c24_len, cSl_len]⟩
theorem lr27_Min (x : T27) (v : Int) : LR (c27 x) 5 ((cI .i64) x.Min) ((cI .i64) v) (c27 { x with Min := v }) :=
 ⟨(cI .u8) x.Kind ++ (c24 x.Set), (cI .i64) x.Max ++ ((cI .i64) x.Group ++ ((cSl 9 v27) x.Kids)), by rw [c27_eq]; simp only [List.append_assoc, List.nil_append, List.append_nil], by rw [c27_eq]; simp only [List.append_assoc, List.nil_append, List.append_nil], by simp only [List.length_append, List.length_nil, (cI_len .i64), (cI_len .u8), c24_len, cSl_len]⟩
theorem lrg27_Max (x : T27) : LR (c27 x) 6 ((cI .i64) x.Max) ((cI .i64) x.Max) (c27 x) :=
 ⟨(cI .u8) x.Kind ++ (c24 x.Set ++ ((cI .i64) x.Min)), (cI .i64) x.Group ++ ((cSl 9 v27) x.Kids), by rw [c27_eq]; simp only [List.append_assoc, List.nil_append, List.append_nil], by rw [c27_eq]; simp only [List.append_assoc, List.nil_append, List.append_nil], by simp only [List.length_append, List.length_nil, (cI_len .i64), (cI_len .u8), c24_len, cSl_len]⟩
theorem lr27_Max (x : T27) (v : Int) : LR (c27 x) 6 ((cI .i64) x.Max) ((cI .i64) v) (c27 { x with Max := v }) :=
 ⟨(cI .u8) x.Kind ++ (c24 x.Set ++ ((cI .i64) x.Min)), (cI .i64) x.Group ++ ((cSl 9 v27) x.Kids), by rw [c27_eq]; simp only [List.append_assoc, List.nil_append, List.append_nil], by rw [c27_eq]; simp only [List.append_assoc, List.nil_append, List.append_nil], by simp only [List.length_append, List.length_nil, (cI_len .i64), (cI_len .u8), c24_len, cSl_len]⟩
theorem lrg27_Group (x : T27) : LR (c27 x) 7 ((cI .i64) x.Group) ((cI .i64) x.Group) (c27 x) :=
 ⟨(cI .u8) x.Kind ++ (c24 x.Set ++ ((cI .i64) x.Min ++ ((cI .i64) x.Max))), (cSl 9 v27) x.Kids, by rw [c27_eq]; simp only [List.append_assoc, List.nil_append, List.append_nil], by rw [c27_eq]; simp only [List.append_assoc, List.nil_append, List.append_nil], by simp only [List.length_append, List.length_nil, (cI_len .i64), (cI_len .u8), c24_len, cSl_len]⟩
theorem lrg27_Kids (x : T27) : LR (c27 x) 8 ((cSl 9 v27) x.Kids) ((cSl 9 v27) x.Kids) (c27 x) :=
 ⟨(cI .u8) x.Kind ++ (c24 x.Set ++ ((cI .i64) x.Min ++ ((cI .i64) x.Max ++ ((cI .i64) x.Group)))), [], by rw [c27_eq]; simp only [List.append_assoc, List.nil_append, List.append_nil], by rw [c27_eq]; simp only [List.append_assoc, List.nil_append, List.append_nil], by simp only [List.length_append, List.length_nil, (cI_len .i64), (cI_len .u8), c24_len, cSl_len]⟩
theorem lr27_Kids (x : T27) (v : Option (List T27)) : LR (c27 x) 8 ((cSl 9 v27) x.Kids) ((cSl 9 v27) v) (c27 { x with Kids := v }) :=
 ⟨(cI .u8) x.Kind ++ (c24 x.Set ++ ((cI .i64) x.Min ++ ((cI .i64) x.Max ++ ((cI .i64) x.Group)))), [], by rw [c27_eq]; simp only [List.append_assoc, List.nil_append, List.append_nil], by rw [c27_eq]; simp only [List.append_assoc, List.nil_append, List.append_nil], by simp only [List.length_append, List.length_nil, (cI_len .i64), (cI_len .u8), c24_len, cSl_len]⟩
mutual
theorem c27_ds : ∀ x : T27, DSL (c27 x) (c27 x)
 | ⟨x0, x1, x2, x3, x4, x5⟩ => by rw [c27]; exact (dsl_app (inferInstance : DtL ((cI .u8) x0)).h (dsl_app (inferInstance : DtL (c24 x1)).h (dsl_app (inferInstance : DtL ((cI .i64) x2)).h (dsl_app (inferInstance : DtL ((cI .i64) x3)).h (dsl_app (inferInstance : DtL ((cI .i64) x4)).h (dsl_cons (kk27_ds x5) dsl_nil))))))
theorem kk27_ds : ∀ o : Option (List T27), DS (kk27 o) (kk27 o)
 | none => by rw [kk27]; exact ⟨rfl, rfl⟩
 | some l => by rw [kk27]; exact ⟨by simp only [AV.data]; exact (ll27_ds l).1, by simp only [AV.strip]; rw [(ll27_ds l).2]⟩
theorem ll27_ds : ∀ l : List T27, DSL (ll27 l) (ll27 l)
 | [] => by rw [ll27]; exact dsl_nil
 | x :: l => by rw [ll27]; exact dsl_cons (ds_agg (c27_ds x)) (ll27_ds l)
end
instance (x : T27) : DtL (c27 x) := ⟨c27_ds x⟩
instance (x : T27) : DtV (v27 x) := ⟨ds_agg (c27_ds x)⟩
instance : DtF v27 := ⟨fun x => (inferInstance : DtV (v27 x)).h⟩
def bx45_r (i : Nat) (x : Sl Bool) : Asn := bx1 fun j0 => [pt i (.cells ([rvV 1 x j0])), rvA cB j0 x]
structure T52 where
 Kind : Int
 Set : Arr 4 Int
 To : Int
 Group : Int
 Last : Int
 Slot : Int
 deriving DecidableEq
def c52 (x : T52) : List AV := (cI .u8) x.Kind ++ (c24 x.Set ++ ((cI .i64) x.To ++ ((cI .i64) x.Group ++ ((cI .i64) x.Last ++ ((cI .i64) x.Slot)))))
theorem c52_len (x : T52) : (c52 x).length = 9 := rfl
theorem c52_one (x : T52) : (c52 x).all AV.one = true := rfl
instance (x : T52) : DtL (c52 x) := by unfold c52; infer_instance
def v52 (x : T52) : AV := .agg (c52 x)
instance (x : T52) : DtV (v52 x) := ⟨ds_agg (inferInstance : DtL (c52 x)).h⟩
instance : DtF v52 := ⟨fun x => (inferInstance : DtV (v52 x)).h⟩
structure T65 where
 code : Sl T52
 slots : Int
 free : Int
def c65 (x : T65) : List AV := (cSl 9 v52) x.code ++ ((cI .i64) x.slots ++ ((cI .i64) x.free))
instance (x : T65) : DtL (c65 x) := by unfold c65; infer_instance
def v65 (x : T65) : AV := .agg (c65 x)
instance (x : T65) : DtV (v65 x) := ⟨ds_agg (inferInstance : DtL (c65 x)).h⟩
instance : DtF v65 := ⟨fun x => (inferInstance : DtV (v65 x)).h⟩
def bx65_0r (i : Nat) (x : T65) : Asn := bx1 fun j0 => [pt i (.cells ([rvV 9 x.code j0] ++ ((cI .i64) (x.slots) ++ ((cI .i64) (x.free))))), rvA c52 j0 x.code]
structure T92 where
 in_ : Sl Bool
 list : Sl Int
def c92 (x : T92) : List AV := (cSl 1 AV.bool) x.in_ ++ ((cSl 1 (AV.int .i64)) x.list)
instance (x : T92) : DtL (c92 x) := by unfold c92; infer_instance
def v92 (x : T92) : AV := .agg (c92 x)
instance (x : T92) : DtV (v92 x) := ⟨ds_agg (inferInstance : DtL (c92 x)).h⟩
instance : DtF v92 := ⟨fun x => (inferInstance : DtV (v92 x)).h⟩
def bx92_0r1o (i : Nat) (x : T92) : Asn := bx2 fun j0 j1 => [pt i (.cells ([rvV 1 x.in_ j0] ++ ([ownV 1 (AV.int .i64) x.list j1]))), rvA cB j0 x.in_, ownA j1 x.list]
structure T34 where
 Groups : Int
 Slots : Int
 Code : Sl T52
def c34 (x : T34) : List AV := (cI .i64) x.Groups ++ ((cI .i64) x.Slots ++ ((cSl 9 v52) x.Code))
theorem c34_len (x : T34) : (c34 x).length = 3 := rfl
theorem c34_one (x : T34) : (c34 x).all AV.one = true := (one_app ((cI_one .i64) x.Groups) (one_app ((cI_one .i64) x.Slots) (cSl_one x.Code)))
instance (x : T34) : DtL (c34 x) := by unfold c34; infer_instance
def v34 (x : T34) : AV := .agg (c34 x)
instance (x : T34) : DtV (v34 x) := ⟨ds_agg (inferInstance : DtL (c34 x)).h⟩
instance : DtF v34 := ⟨fun x => (inferInstance : DtV (v34 x)).h⟩
def bx42_r (i : Nat) (x : Sl Int) : Asn := bx1 fun j0 => [pt i (.cells ([rvV 1 x j0])), rvA (cI .i64) j0 x]
def bx42_o (i : Nat) (x : Sl Int) : Asn := bx1 fun j0 => [pt i (.cells ([ownV 1 (AV.int .i64) x j0])), ownA j0 x]
theorem c52_eq : EqC [.i, .i, .i, .i, .i, .i, .i, .i, .i] c52 := fun x y => by
 refine (show AV.eqKs [.i, .i, .i, .i, .i, .i, .i, .i, .i] (c52 x) (c52 y) = some _ from eqKs_app _ _ _ _ ((eqC_I .u8) x.Kind y.Kind) _ _ _ _ (eqKs_app _ _ _ _ (c24_eq x.Set y.Set) _ _ _ _ (eqKs_app _ _ _ _ ((eqC_I .i64) x.To y.To) _ _ _ _ (eqKs_app _ _ _ _ ((eqC_I .i64) x.Group y.Group) _ _ _ _ (eqKs_app _ _ _ _ ((eqC_I .i64) x.Last y.Last) _ _ _ _ ((eqC_I .i64) x.Slot y.Slot)))))).trans ?_
 obtain ⟨x0, x1, x2, x3, x4, x5⟩ := x
 obtain ⟨y0, y1, y2, y3, y4, y5⟩ := y
 simp only [T52.mk.injEq, Bool.decide_and]
structure T56 where
 From : Int
 To : Int
 deriving DecidableEq
def c56 (x : T56) : List AV := (cI .i64) x.From ++ ((cI .i64) x.To)
theorem c56_len (x : T56) : (c56 x).length = 2 := rfl
instance (x : T56) : DtL (c56 x) := by unfold c56; infer_instance
def v56 (x : T56) : AV := .agg (c56 x)
instance (x : T56) : DtV (v56 x) := ⟨ds_agg (inferInstance : DtL (c56 x)).h⟩
instance : DtF v56 := ⟨fun x => (inferInstance : DtV (v56 x)).h⟩
theorem c56_eq : EqC [.i, .i] c56 := fun x y => by
 refine (show AV.eqKs [.i, .i] (c56 x) (c56 y) = some _ from eqKs_app _ _ _ _ ((eqC_I .i64) x.From y.From) _ _ _ _ ((eqC_I .i64) x.To y.To)).trans ?_
 obtain ⟨x0, x1⟩ := x
 obtain ⟨y0, y1⟩ := y
 simp only [T56.mk.injEq, Bool.decide_and]
def bx34_2o (i : Nat) (x : T34) : Asn := bx1 fun j0 => [pt i (.cells ((cI .i64) (x.Groups) ++ ((cI .i64) (x.Slots) ++ ([ownV 9 v52 x.Code j0])))), ownA j0 x.Code]
def bx34_2r (i : Nat) (x : T34) : Asn := bx1 fun j0 => [pt i (.cells ((cI .i64) (x.Groups) ++ ((cI .i64) (x.Slots) ++ ([rvV 9 x.Code j0])))), rvA c52 j0 x.Code]
end Go.Proofs.Ytjbafmnocopofaa
end
section
namespace Go.Proofs.Ytjbafmnocopofaa
open Go AW
set_option maxRecDepth 100000
theorem rf0 {H : Type} {enc : TypeId × Value → H} {P : Program} {W : World} {base : Nat} {t : TypeId} {α : Type} {c : α → List AV} {ok : α → Prop} {bk : α → Nat} : RdF 0 enc P W base t c ok bk := ⟨fun {fuel cs x} h e => by
  obtain rfl : fuel = 0 := by omega
  simp [DataW.trod] at e⟩
theorem rfS1 {H : Type} {enc : TypeId × Value → H} {P : Program} {W : World} {base : Nat} {t : TypeId} {α : Type} {c : α → List AV} {ok : α → Prop} {bk : α → Nat} (n : Nat) (h : ∀ m, m < n → RdF (m + 1) enc P W base t c ok bk) : RdF n enc P W base t c ok bk := by
  cases n with
  | zero => exact rf0
  | succ m => exact h m (by omega)
mutual
def okr27 : T27 → Prop
 | ⟨x0, x1, x2, x3, x4, x5⟩ => okI .u8 x0 ∧ okA .u64 x1 ∧ okI .i64 x2 ∧ okI .i64 x3 ∧ okI .i64 x4 ∧ okro27 x5 ∧ True
def okro27 : Option (List T27) → Prop
 | none => True
 | some l => okrl27 l
def okrl27 : List T27 → Prop
 | [] => True
 | x :: l => okr27 x ∧ okrl27 l
end
mutual
def bkr27 : T27 → Nat
 | ⟨x0, x1, x2, x3, x4, x5⟩ => (bk1 x0 + (bk1 x1 + (bk1 x2 + (bk1 x3 + (bk1 x4 + (bkro27 x5 + 0)))))) + 1
def bkro27 : Option (List T27) → Nat
 | none => 1
 | some l => bkrl27 l + 1
def bkrl27 : List T27 → Nat
 | [] => 0
 | x :: l => bkr27 x + bkrl27 l
end
theorem okrl27_iff : ∀ l : List T27, okrl27 l ↔ ∀ x ∈ l, okr27 x
 | [] => by simp [okrl27]
 | x :: l => by simp [okrl27, okrl27_iff l]
theorem okro27_iff (o : Option (List T27)) : okro27 o ↔ ∀ x ∈ ls o, okr27 x := by
 cases o with
 | none => simp [okro27, ls]
 | some l => rw [okro27, okrl27_iff]; rfl
theorem bkrl27_sum : ∀ l : List T27, bkrl27 l = (l.map bkr27).sum
 | [] => rfl
 | x :: l => by rw [bkrl27, bkrl27_sum l]; rfl
theorem bkro27_eq (o : Option (List T27)) : bkro27 o = bkSl bkr27 o := by
 cases o with
 | none => rfl
 | some l => rw [bkro27, bkrl27_sum]; rfl
section
variable {H : Type} {enc : TypeId × Value → H} {W : World} {base : Nat}
theorem rdr27 : ∀ n, RdF n enc Try.prog W base 28 c27 okr27 bkr27 := by
 intro n
 induction n using Nat.strongRecOn with
 | _ n jh =>
  cases n with
  | zero => exact rf0
  | succ n =>
   have ih : ∀ m, m < n → RdF m enc Try.prog W base 28 c27 okr27 bkr27 := fun m h => jh m (by omega)
   exact rfT (m := 9) (c' := c27) (ok' := okr27) (bk' := bkr27) (γ := Int × (Arr 4 Int) × Int × Int × Int × Option (List T27) × Unit) (fun a => T27.mk a.1 a.2.1 a.2.2.1 a.2.2.2.1 a.2.2.2.2.1 a.2.2.2.2.2.1) Try.underlying28 (by kernel_rfl) (rtCons (i := 0) (o := 0) (o' := 1) rfl (by kernel_rfl) (by kernel_rfl) (rfI Try.underlying22) (rtCons (i := 1) (o := 1) (o' := 5) rfl (by kernel_rfl) (by kernel_rfl) (rfA (c := c24) (fun a => cF_A (cI .u64) 0 a) Try.underlying25 Try.underlying23 (by kernel_rfl) (by kernel_rfl)) (rtCons (i := 2) (o := 5) (o' := 6) rfl (by kernel_rfl) (by kernel_rfl) (rfI Try.underlying3) (rtCons (i := 3) (o := 6) (o' := 7) rfl (by kernel_rfl) (by kernel_rfl) (rfI Try.underlying3) (rtCons (i := 4) (o := 7) (o' := 8) rfl (by kernel_rfl) (by kernel_rfl) (rfI Try.underlying3) (rtCons (i := 5) (o := 8) (o' := 9) rfl (by kernel_rfl) (by kernel_rfl) (rfS1 n fun m hm => rfSl (es := 9) (f := v27) Try.underlying26 (by kernel_rfl) (by decide) (ih m hm) agg_rep) rtNil)))))) (fun a => by rw [c27_eq]; simp only [List.append_nil]) (fun a h => by rw [okr27]; simp only [okro27_iff]; exact h) (fun a => by rw [bkr27]; simp only [bkro27_eq]; exact Nat.le_refl _)
end
end Go.Proofs.Ytjbafmnocopofaa
end
section
set_option maxRecDepth 4000
set_option maxHeartbeats 4000000
namespace Go.Proofs.Ytjbafmnocopofaa
open Go AW
attribute [local irreducible] W WD SH XS XLoop DFun XCall XYield
def O31_25q1 : List AOp := (q 45 (.nilck 44)).y 39 :: (q 46 (.faddr 5 45)).y 39 :: (q 47 (.load1 46)).y 39 :: (q 48 (.binI .lss 43 47)).y 39 :: (q 49 (.mv 48)).y 39 :: (q 50 (.mv 0)).n 49 :: (q 51 (.nilck 50)).n 49 :: (q 52 (.faddr 6 51)).n 49 :: (q 53 (.load1 52)).n 49 :: (q 54 (.binI .gtr 53 (ki 255))).n 49 :: (q 55 (.pick 49 (.c (.bool true)) 54)).y 39 :: (q 56 (.pick 39 55 (.c (.bool false)))).n 33 :: q 57 (.pick 33 (.c (.bool true)) 56) :: []
def O31_25q0 : List AOp := q 21 (.mv 0) :: q 22 (.nilck 21) :: q 23 (.faddr 5 22) :: q 24 (.load1 23) :: q 25 (.binI .lss 24 (ki 0)) :: q 26 (.mv 25) :: (q 27 (.mv 0)).n 26 :: (q 28 (.nilck 27)).n 26 :: (q 29 (.faddr 5 28)).n 26 :: (q 30 (.load1 29)).n 26 :: (q 31 (.binI .gtr 30 (ki 255))).n 26 :: q 32 (.pick 26 (.c (.bool true)) 31) :: q 33 (.mv 32) :: (q 34 (.mv 0)).n 33 :: (q 35 (.nilck 34)).n 33 :: (q 36 (.faddr 6 35)).n 33 :: (q 37 (.load1 36)).n 33 :: (q 38 (.binI .neq 37 (ki (-1)))).n 33 :: (q 39 (.mv 38)).n 33 :: (q 40 (.mv 0)).y 39 :: (q 41 (.nilck 40)).y 39 :: (q 42 (.faddr 6 41)).y 39 :: (q 43 (.load1 42)).y 39 :: (q 44 (.mv 0)).y 39 :: O31_25q1
def C31_24 : ACode := .s (.draw [] 0 0 O31_25q0 []) (.cond 57 (.s (.ops [q 2 (.mv (.c (.bool false)))]) .ret) .skip)
def C31_33 : ACode := .cond 58 (.ops [q 4 (.mv (ki 1))]) (.s (.s (.ops [q 61 (.binI .eql 13 (ku 1)), q 60 (.mv 61)]) (.cond 60 .skip (.s (.ops [q 62 (.binI .eql 13 (ku 2)), q 60 (.mv 62)]) (.cond 60 .skip (.s (.ops [q 63 (.binI .eql 13 (ku 7)), q 60 (.mv 63)]) (.cond 60 .skip (.s (.ops [q 64 (.binI .eql 13 (ku 8)), q 60 (.mv 64)]) (.cond 60 .skip (.ops [q 65 (.binI .eql 13 (ku 9)), q 60 (.mv 65)]))))))))) (.cond 60 .skip (.s (.ops [q 2 (.mv (.c (.bool false)))]) .ret)))
def O31_59o2 : List AOp := (q 114 (.faddr 0 113)).n 111 :: (q 115 (.load1 114)).n 111 :: (q 116 (.binI .eql 115 (ku 7))).n 111 :: (q 117 (.pick 111 (.c (.bool true)) 116)).y 105 :: (q 118 (.mv 117)).y 105 :: (q 119 (.mv 0)).n 118 :: (q 120 (.nilck 119)).n 118 :: (q 121 (.faddr 7 120)).n 118 :: (q 122 (.load1 121)).n 118 :: (q 123 (.binI .eql 122 (ki 0))).n 118 :: (q 124 (.pick 118 (.c (.bool true)) 123)).y 105 :: q 125 (.pick 105 124 (.c (.bool false))) :: q 2 (.mv 125) :: []
def O31_59o1 : List AOp := (q 90 (.mv 89)).y 84 :: (q 91 (.mv 0)).n 90 :: (q 92 (.nilck 91)).n 90 :: (q 93 (.faddr 5 92)).n 90 :: (q 94 (.load1 93)).n 90 :: (q 95 (.binI .eql 94 (ki 0))).n 90 :: (q 96 (.mv 95)).n 90 :: (q 97 (.mv 0)).y 96 :: (q 98 (.nilck 97)).y 96 :: (q 99 (.faddr 6 98)).y 96 :: (q 100 (.load1 99)).y 96 :: (q 101 (.binI .eql 100 (ki 0))).y 96 :: (q 102 (.pick 96 101 (.c (.bool false)))).n 90 :: (q 103 (.pick 90 (.c (.bool true)) 102)).y 84 :: q 104 (.pick 84 103 (.c (.bool false))) :: q 105 (.mv 104) :: (q 106 (.mv 0)).y 105 :: (q 107 (.nilck 106)).y 105 :: (q 108 (.faddr 0 107)).y 105 :: (q 109 (.load1 108)).y 105 :: (q 110 (.binI .eql 109 (ku 6))).y 105 :: (q 111 (.mv 110)).y 105 :: (q 112 (.mv 0)).n 111 :: (q 113 (.nilck 112)).n 111 :: O31_59o2
def O31_59o0 : List AOp := q 66 (.mv 3) :: q 67 (.mv 4) :: q 68 (.binI .eql 66 67) :: q 69 (.mv 68) :: (q 70 (.mv 0)).y 69 :: (q 71 (.nilck 70)).y 69 :: (q 72 (.faddr 0 71)).y 69 :: (q 73 (.load1 72)).y 69 :: (q 74 (.binI .eql 73 (ku 2))).y 69 :: (q 75 (.mv 74)).y 69 :: (q 76 (.mv 0)).n 75 :: (q 77 (.nilck 76)).n 75 :: (q 78 (.faddr 1 77)).n 75 :: (q 79 (.loadN 4 78)).n 75 :: (q 80 (.build [(.int .u64 0), (.int .u64 0), (.int .u64 0), (.int .u64 0)] [])).n 75 :: (q 81 (.eqA false [.i, .i, .i, .i] 79 80)).n 75 :: (q 82 (.pick 75 (.c (.bool true)) 81)).y 69 :: q 83 (.pick 69 82 (.c (.bool false))) :: q 84 (.mv 83) :: (q 85 (.mv 0)).y 84 :: (q 86 (.nilck 85)).y 84 :: (q 87 (.faddr 0 86)).y 84 :: (q 88 (.load1 87)).y 84 :: (q 89 (.binI .eql 88 (ku 5))).y 84 :: O31_59o1
def C31_58 : ACode := .s (.ops O31_59o0) .ret
def C31_1 : ACode := .s (.ops [q 2 (.mv (.c (.bool false)))]) (.s (.ops [q 5 (.mv 0), q 6 (.nilck 5), q 7 (.faddr 8 6), q 8 (.load1 7), q 9 (.len 8), q 3 (.mv 9)]) (.s (.ops [q 4 (.mv (ki 0))]) (.s (.s (.ops [q 10 (.mv 0), q 11 (.nilck 10), q 12 (.faddr 0 11), q 13 (.load1 12)]) (.block 0 (.s (.s (.ops [q 15 (.binI .eql 13 (ku 3)), q 14 (.mv 15)]) (.cond 14 .skip (.ops [q 16 (.binI .eql 13 (ku 4)), q 14 (.mv 16)]))) (.cond 14 (.ops [q 17 (.mv 3), q 18 (.max [17, (ki 2)]), q 4 (.mv 18)]) (.s (.ops [q 20 (.binI .eql 13 (ku 5)), q 19 (.mv 20)]) (.cond 19 (.s (.ops [q 4 (.mv (ki 1))]) C31_24) (.s (.ops [q 59 (.binI .eql 13 (ku 6)), q 58 (.mv 59)]) C31_33))))))) C31_58)))
def R31 : List RA := [(.tmp 2)]
theorem k31 : compF Try.prog (muL []) 31 = some ⟨126, C31_1, R31⟩ := by kernel_rfl
noncomputable abbrev X31 (r : Bool) : Cx := cD Try.prog noG 126 R31 (AV.bool r)
inductive St31 where
 | p1 (n : T27) (kids : Int) (want : Int)
noncomputable def G31 : St31 → Option Bool | .p1 n kids want => (if (kids == want) = true then (if (n.Kind == 2) = true then (if (n.Kind == 5) = true then (if (n.Kind == 6) = true then (some true) else (if (n.Kind == 7) = true then (some true) else (some (n.Group == 0)))) else (if (n.Min == 0) = true then (if (n.Max == 0) = true then (if (n.Kind == 6) = true then (some true) else (if (n.Kind == 7) = true then (some true) else (some (n.Group == 0)))) else (some false)) else (some false))) else (if (decide (n.Set = (Arr.rep 4 (0 : Int)))) = true then (if (n.Kind == 5) = true then (if (n.Kind == 6) = true then (some true) else (if (n.Kind == 7) = true then (some true) else (some (n.Group == 0)))) else (if (n.Min == 0) = true then (if (n.Max == 0) = true then (if (n.Kind == 6) = true then (some true) else (if (n.Kind == 7) = true then (some true) else (some (n.Group == 0)))) else (some false)) else (some false))) else (some false))) else (some false))
def M31 (x : St31) (r : Bool) : Prop := match x with | .p1 n kids want => ∀ (tm : Fr) (st : Store), Frm tm [(0, .dptr (c27 n)), (3, AV.int .i64 kids), (4, AV.int .i64 want)] → SH st [] → W (X31 r) [.code C31_58] tm st
theorem w31 : ∀ (x : St31) (r : Bool), G31 x = some r → M31 x r := by
 intro x r hF
 cases x with
 | p1 n kids want =>
  dsimp only [G31] at hF
  intro tm st hf hs
  refine en hf ?_
  refine rn 4 rfl ?_
  refine bi hF (fun c_15 hF => ?_) (fun c_15 hF => ?_)
  · refine wfx 69 rfl c_15 ?_
    refine rn 1 rfl ?_
    refine W.on rfl rfl ?_
    refine W.o (e_nilckD rfl) ?_
    refine W.on rfl rfl ?_
    refine W.o (e_faddrD rfl) ?_
    refine W.on rfl rfl ?_
    refine W.o (e_load1D rfl (DP.fld (DP.refl _) (lrg27_Kind n))) ?_
    refine rn 2 rfl ?_
    refine bi hF (fun c_16 hF => ?_) (fun c_16 hF => ?_)
    · refine wfx 75 rfl c_16 ?_
      refine rn 10 rfl ?_
      refine W.on rfl rfl ?_
      refine W.o (e_nilckD rfl) ?_
      refine W.on rfl rfl ?_
      refine W.o (e_faddrD rfl) ?_
      refine W.on rfl rfl ?_
      refine W.o (e_load1D rfl (DP.fld (DP.refl _) (lrg27_Kind n))) ?_
      refine rn 2 rfl ?_
      refine bi hF (fun c_17 hF => ?_) (fun c_17 hF => ?_)
      · refine wfx 90 rfl c_17 ?_
        refine rn 16 rfl ?_
        refine W.on rfl rfl ?_
        refine W.o (e_nilckD rfl) ?_
        refine W.on rfl rfl ?_
        refine W.o (e_faddrD rfl) ?_
        refine W.on rfl rfl ?_
        refine W.o (e_load1D rfl (DP.fld (DP.refl _) (lrg27_Kind n))) ?_
        refine rn 2 rfl ?_
        refine bi hF (fun c_18 hF => ?_) (fun c_18 hF => ?_)
        · refine wfx 111 rfl c_18 ?_
          refine rn 15 rfl ?_
          cases hF
          exact rD (rlt rl0) rfl
        refine wfx 111 rfl c_18 ?_
        refine rn 1 rfl ?_
        refine W.on rfl rfl ?_
        refine W.o (e_nilckD rfl) ?_
        refine W.on rfl rfl ?_
        refine W.o (e_faddrD rfl) ?_
        refine W.on rfl rfl ?_
        refine W.o (e_load1D rfl (DP.fld (DP.refl _) (lrg27_Kind n))) ?_
        refine rn 3 rfl ?_
        refine bi hF (fun c_19 hF => ?_) (fun c_19 hF => ?_)
        · refine wfx 118 rfl c_19 ?_
          refine rn 8 rfl ?_
          cases hF
          exact rD (rlt rl0) rfl
        refine wfx 118 rfl c_19 ?_
        refine rn 1 rfl ?_
        refine W.on rfl rfl ?_
        refine W.o (e_nilckD rfl) ?_
        refine W.on rfl rfl ?_
        refine W.o (e_faddrD rfl) ?_
        refine W.on rfl rfl ?_
        refine W.o (e_load1D rfl (DP.fld (DP.refl _) (lrg27_Group n))) ?_
        refine rn 4 rfl ?_
        cases hF
        exact rD (rlt rl0) rfl
      refine wfx 90 rfl c_17 ?_
      refine rn 1 rfl ?_
      refine W.on rfl rfl ?_
      refine W.o (e_nilckD rfl) ?_
      refine W.on rfl rfl ?_
      refine W.o (e_faddrD rfl) ?_
      refine W.on rfl rfl ?_
      refine W.o (e_load1D rfl (DP.fld (DP.refl _) (lrg27_Min n))) ?_
      refine rn 2 rfl ?_
      refine bi hF (fun c_20 hF => ?_) (fun c_20 hF => ?_)
      · refine wfx 96 rfl c_20 ?_
        refine rn 1 rfl ?_
        refine W.on rfl rfl ?_
        refine W.o (e_nilckD rfl) ?_
        refine W.on rfl rfl ?_
        refine W.o (e_faddrD rfl) ?_
        refine W.on rfl rfl ?_
        refine W.o (e_load1D rfl (DP.fld (DP.refl _) (lrg27_Max n))) ?_
        refine rn 5 rfl ?_
        refine bi hF (fun c_21 hF => ?_) (fun c_21 hF => ?_)
        · refine wfx 105 rfl c_21 ?_
          refine rn 1 rfl ?_
          refine W.on rfl rfl ?_
          refine W.o (e_nilckD rfl) ?_
          refine W.on rfl rfl ?_
          refine W.o (e_faddrD rfl) ?_
          refine W.on rfl rfl ?_
          refine W.o (e_load1D rfl (DP.fld (DP.refl _) (lrg27_Kind n))) ?_
          refine rn 2 rfl ?_
          refine bi hF (fun c_22 hF => ?_) (fun c_22 hF => ?_)
          · refine wfx 111 rfl c_22 ?_
            refine rn 15 rfl ?_
            cases hF
            exact rD (rlt rl0) rfl
          refine wfx 111 rfl c_22 ?_
          refine rn 1 rfl ?_
          refine W.on rfl rfl ?_
          refine W.o (e_nilckD rfl) ?_
          refine W.on rfl rfl ?_
          refine W.o (e_faddrD rfl) ?_
          refine W.on rfl rfl ?_
          refine W.o (e_load1D rfl (DP.fld (DP.refl _) (lrg27_Kind n))) ?_
          refine rn 3 rfl ?_
          refine bi hF (fun c_23 hF => ?_) (fun c_23 hF => ?_)
          · refine wfx 118 rfl c_23 ?_
            refine rn 8 rfl ?_
            cases hF
            exact rD (rlt rl0) rfl
          refine wfx 118 rfl c_23 ?_
          refine rn 1 rfl ?_
          refine W.on rfl rfl ?_
          refine W.o (e_nilckD rfl) ?_
          refine W.on rfl rfl ?_
          refine W.o (e_faddrD rfl) ?_
          refine W.on rfl rfl ?_
          refine W.o (e_load1D rfl (DP.fld (DP.refl _) (lrg27_Group n))) ?_
          refine rn 4 rfl ?_
          cases hF
          exact rD (rlt rl0) rfl
        refine wfx 105 rfl c_21 ?_
        refine rn 21 rfl ?_
        cases hF
        exact rD (rlt rl0) rfl
      refine wfx 96 rfl c_20 ?_
      refine rn 30 rfl ?_
      cases hF
      exact rD (rlt rl0) rfl
    refine wfx 75 rfl c_16 ?_
    refine rn 1 rfl ?_
    refine W.on rfl rfl ?_
    refine W.o (e_nilckD rfl) ?_
    refine W.on rfl rfl ?_
    refine W.o (e_faddrD rfl) ?_
    refine W.on rfl rfl ?_
    refine W.o (e_loadND rfl (DP.fld (DP.refl _) (lrg27_Set n)) (c24_len _)) ?_
    refine W.on rfl rfl ?_
    refine W.o (e_build (z := [(.int .u64 0), (.int .u64 0), (.int .u64 0), (.int .u64 0)]) (cs := c24 (Arr.rep 4 (0 : Int))) pk_nil (show fillA (c24 (Arr.rep 4 (0 : Int))) _ = _ from (fl_nil _))) ?_
    refine W.on rfl rfl ?_
    refine W.o (e_eqA rfl rfl (c24_eq n.Set (Arr.rep 4 (0 : Int)))) ?_
    refine rn 3 rfl ?_
    refine bi hF (fun c_24 hF => ?_) (fun c_24 hF => ?_)
    · refine wfx 84 rfl c_24 ?_
      refine rn 1 rfl ?_
      refine W.on rfl rfl ?_
      refine W.o (e_nilckD rfl) ?_
      refine W.on rfl rfl ?_
      refine W.o (e_faddrD rfl) ?_
      refine W.on rfl rfl ?_
      refine W.o (e_load1D rfl (DP.fld (DP.refl _) (lrg27_Kind n))) ?_
      refine rn 2 rfl ?_
      refine bi hF (fun c_25 hF => ?_) (fun c_25 hF => ?_)
      · refine wfx 90 rfl c_25 ?_
        refine rn 16 rfl ?_
        refine W.on rfl rfl ?_
        refine W.o (e_nilckD rfl) ?_
        refine W.on rfl rfl ?_
        refine W.o (e_faddrD rfl) ?_
        refine W.on rfl rfl ?_
        refine W.o (e_load1D rfl (DP.fld (DP.refl _) (lrg27_Kind n))) ?_
        refine rn 2 rfl ?_
        refine bi hF (fun c_26 hF => ?_) (fun c_26 hF => ?_)
        · refine wfx 111 rfl c_26 ?_
          refine rn 15 rfl ?_
          cases hF
          exact rD (rlt rl0) rfl
        refine wfx 111 rfl c_26 ?_
        refine rn 1 rfl ?_
        refine W.on rfl rfl ?_
        refine W.o (e_nilckD rfl) ?_
        refine W.on rfl rfl ?_
        refine W.o (e_faddrD rfl) ?_
        refine W.on rfl rfl ?_
        refine W.o (e_load1D rfl (DP.fld (DP.refl _) (lrg27_Kind n))) ?_
        refine rn 3 rfl ?_
        refine bi hF (fun c_27 hF => ?_) (fun c_27 hF => ?_)
        · refine wfx 118 rfl c_27 ?_
          refine rn 8 rfl ?_
          cases hF
          exact rD (rlt rl0) rfl
        refine wfx 118 rfl c_27 ?_
        refine rn 1 rfl ?_
        refine W.on rfl rfl ?_
        refine W.o (e_nilckD rfl) ?_
        refine W.on rfl rfl ?_
        refine W.o (e_faddrD rfl) ?_
        refine W.on rfl rfl ?_
        refine W.o (e_load1D rfl (DP.fld (DP.refl _) (lrg27_Group n))) ?_
        refine rn 4 rfl ?_
        cases hF
        exact rD (rlt rl0) rfl
      refine wfx 90 rfl c_25 ?_
      refine rn 1 rfl ?_
      refine W.on rfl rfl ?_
      refine W.o (e_nilckD rfl) ?_
      refine W.on rfl rfl ?_
      refine W.o (e_faddrD rfl) ?_
      refine W.on rfl rfl ?_
      refine W.o (e_load1D rfl (DP.fld (DP.refl _) (lrg27_Min n))) ?_
      refine rn 2 rfl ?_
      refine bi hF (fun c_28 hF => ?_) (fun c_28 hF => ?_)
      · refine wfx 96 rfl c_28 ?_
        refine rn 1 rfl ?_
        refine W.on rfl rfl ?_
        refine W.o (e_nilckD rfl) ?_
        refine W.on rfl rfl ?_
        refine W.o (e_faddrD rfl) ?_
        refine W.on rfl rfl ?_
        refine W.o (e_load1D rfl (DP.fld (DP.refl _) (lrg27_Max n))) ?_
        refine rn 5 rfl ?_
        refine bi hF (fun c_29 hF => ?_) (fun c_29 hF => ?_)
        · refine wfx 105 rfl c_29 ?_
          refine rn 1 rfl ?_
          refine W.on rfl rfl ?_
          refine W.o (e_nilckD rfl) ?_
          refine W.on rfl rfl ?_
          refine W.o (e_faddrD rfl) ?_
          refine W.on rfl rfl ?_
          refine W.o (e_load1D rfl (DP.fld (DP.refl _) (lrg27_Kind n))) ?_
          refine rn 2 rfl ?_
          refine bi hF (fun c_30 hF => ?_) (fun c_30 hF => ?_)
          · refine wfx 111 rfl c_30 ?_
            refine rn 15 rfl ?_
            cases hF
            exact rD (rlt rl0) rfl
          refine wfx 111 rfl c_30 ?_
          refine rn 1 rfl ?_
          refine W.on rfl rfl ?_
          refine W.o (e_nilckD rfl) ?_
          refine W.on rfl rfl ?_
          refine W.o (e_faddrD rfl) ?_
          refine W.on rfl rfl ?_
          refine W.o (e_load1D rfl (DP.fld (DP.refl _) (lrg27_Kind n))) ?_
          refine rn 3 rfl ?_
          refine bi hF (fun c_31 hF => ?_) (fun c_31 hF => ?_)
          · refine wfx 118 rfl c_31 ?_
            refine rn 8 rfl ?_
            cases hF
            exact rD (rlt rl0) rfl
          refine wfx 118 rfl c_31 ?_
          refine rn 1 rfl ?_
          refine W.on rfl rfl ?_
          refine W.o (e_nilckD rfl) ?_
          refine W.on rfl rfl ?_
          refine W.o (e_faddrD rfl) ?_
          refine W.on rfl rfl ?_
          refine W.o (e_load1D rfl (DP.fld (DP.refl _) (lrg27_Group n))) ?_
          refine rn 4 rfl ?_
          cases hF
          exact rD (rlt rl0) rfl
        refine wfx 105 rfl c_29 ?_
        refine rn 21 rfl ?_
        cases hF
        exact rD (rlt rl0) rfl
      refine wfx 96 rfl c_28 ?_
      refine rn 30 rfl ?_
      cases hF
      exact rD (rlt rl0) rfl
    refine wfx 84 rfl c_24 ?_
    refine rn 42 rfl ?_
    cases hF
    exact rD (rlt rl0) rfl
  refine wfx 69 rfl c_15 ?_
  refine rn 57 rfl ?_
  cases hF
  exact rD (rlt rl0) rfl
noncomputable def F31 (n : T27) : Option Bool := (if (n.Kind == 3) = true then (G31 (.p1 n ((ls n.Kids).length : Int) (if 2 > ((ls n.Kids).length : Int) then 2 else ((ls n.Kids).length : Int)))) else (if (n.Kind == 4) = true then (G31 (.p1 n ((ls n.Kids).length : Int) (if 2 > ((ls n.Kids).length : Int) then 2 else ((ls n.Kids).length : Int)))) else (if (n.Kind == 5) = true then (if (decide (n.Min < 0)) = true then (some false) else (if (decide (n.Min > 255)) = true then (some false) else (if (n.Max != (-1)) = true then (if (decide (n.Max < n.Min)) = true then (some false) else (if (decide (n.Max > 255)) = true then (some false) else (G31 (.p1 n ((ls n.Kids).length : Int) 1)))) else (G31 (.p1 n ((ls n.Kids).length : Int) 1))))) else (if (n.Kind == 6) = true then (G31 (.p1 n ((ls n.Kids).length : Int) 1)) else (if (n.Kind == 1) = true then (G31 (.p1 n ((ls n.Kids).length : Int) 0)) else (if (n.Kind == 2) = true then (G31 (.p1 n ((ls n.Kids).length : Int) 0)) else (if (n.Kind == 7) = true then (G31 (.p1 n ((ls n.Kids).length : Int) 0)) else (if (n.Kind == 8) = true then (G31 (.p1 n ((ls n.Kids).length : Int) 0)) else (if (n.Kind == 9) = true then (G31 (.p1 n ((ls n.Kids).length : Int) 0)) else (some false))))))))))
theorem d31 (n : T27) (r : Bool) (hF : F31 n = some r) : DFun Try.prog noG 31 [.dptr (c27 n)] (AV.bool r) := by
 unfold F31 at hF
 refine bD k31 rfl ?_
 have hs : SH [] [] := SH.nil
 generalize ([] : Store) = st at hs ⊢
 refine rn 2 rfl ?_
 refine W.o (e_nilckD rfl) ?_
 refine W.o (e_faddrD rfl) ?_
 refine W.o (e_load1D rfl (DP.fld (DP.refl _) (lrg27_Kids n))) ?_
 refine W.o (e_len (rd_V rfl)) ?_
 refine rn 3 rfl ?_
 refine W.o (e_nilckD rfl) ?_
 refine W.o (e_faddrD rfl) ?_
 refine W.o (e_load1D rfl (DP.fld (DP.refl _) (lrg27_Kind n))) ?_
 refine rn 2 rfl ?_
 refine ci hF rfl (fun c_1 hF => ?_) (fun c_1 hF => ?_)
 · refine rn 0 rfl ?_
   refine ct rfl c_1 ?_
   refine rj 3 2 rfl ?_
   exact w31 (.p1 n ((ls n.Kids).length : Int) (if 2 > ((ls n.Kids).length : Int) then 2 else ((ls n.Kids).length : Int))) _ hF _ _ ⟨rfl, rfl, rfl, trivial⟩ hs
 refine rn 2 rfl ?_
 refine ci hF rfl (fun c_2 hF => ?_) (fun c_2 hF => ?_)
 · refine rj 3 2 rfl ?_
   exact w31 (.p1 n ((ls n.Kids).length : Int) (if 2 > ((ls n.Kids).length : Int) then 2 else ((ls n.Kids).length : Int))) _ hF _ _ ⟨rfl, rfl, rfl, trivial⟩ hs
 refine rn 2 rfl ?_
 refine ci hF rfl (fun c_3 hF => ?_) (fun c_3 hF => ?_)
 · refine rn 1 rfl ?_
   have h0 := hs
   refine dr0 ?_
   refine dn 1 rfl ?_
   refine de rfl (e_nilckD rfl) ?_
   refine de rfl (e_faddrD rfl) ?_
   refine de rfl (e_load1D rfl (DP.fld (DP.refl _) (lrg27_Min n))) ?_
   refine dn 2 rfl ?_
   refine bi hF (fun c_4 hF => ?_) (fun c_4 hF => ?_)
   · refine dfx 26 rfl c_4 ?_
     refine dn 31 rfl ?_
     refine dz ?_
     refine rn 0 rfl ?_
     refine ct rfl rfl ?_
     refine rn 1 rfl ?_
     cases hF
     exact rD (rlt rl0) rfl
   refine dfx 26 rfl c_4 ?_
   refine dn 1 rfl ?_
   refine don rfl rfl ?_
   refine de rfl (e_nilckD rfl) ?_
   refine don rfl rfl ?_
   refine de rfl (e_faddrD rfl) ?_
   refine don rfl rfl ?_
   refine de rfl (e_load1D rfl (DP.fld (DP.refl _) (lrg27_Min n))) ?_
   refine dn 3 rfl ?_
   refine bi hF (fun c_5 hF => ?_) (fun c_5 hF => ?_)
   · refine dfx 33 rfl c_5 ?_
     refine dn 24 rfl ?_
     refine dz ?_
     refine rn 0 rfl ?_
     refine ct rfl rfl ?_
     refine rn 1 rfl ?_
     cases hF
     exact rD (rlt rl0) rfl
   refine dfx 33 rfl c_5 ?_
   refine dn 1 rfl ?_
   refine don rfl rfl ?_
   refine de rfl (e_nilckD rfl) ?_
   refine don rfl rfl ?_
   refine de rfl (e_faddrD rfl) ?_
   refine don rfl rfl ?_
   refine de rfl (e_load1D rfl (DP.fld (DP.refl _) (lrg27_Max n))) ?_
   refine dn 2 rfl ?_
   refine bi hF (fun c_6 hF => ?_) (fun c_6 hF => ?_)
   · refine dfx 39 rfl c_6 ?_
     refine dn 1 rfl ?_
     refine don rfl rfl ?_
     refine de rfl (e_nilckD rfl) ?_
     refine don rfl rfl ?_
     refine de rfl (e_faddrD rfl) ?_
     refine don rfl rfl ?_
     refine de rfl (e_load1D rfl (DP.fld (DP.refl _) (lrg27_Max n))) ?_
     refine dn 1 rfl ?_
     refine don rfl rfl ?_
     refine de rfl (e_nilckD rfl) ?_
     refine don rfl rfl ?_
     refine de rfl (e_faddrD rfl) ?_
     refine don rfl rfl ?_
     refine de rfl (e_load1D rfl (DP.fld (DP.refl _) (lrg27_Min n))) ?_
     refine dn 2 rfl ?_
     refine bi hF (fun c_7 hF => ?_) (fun c_7 hF => ?_)
     · refine dfx 49 rfl c_7 ?_
       refine dn 8 rfl ?_
       refine dz ?_
       refine rn 0 rfl ?_
       refine ct rfl rfl ?_
       refine rn 1 rfl ?_
       cases hF
       exact rD (rlt rl0) rfl
     refine dfx 49 rfl c_7 ?_
     refine dn 1 rfl ?_
     refine don rfl rfl ?_
     refine de rfl (e_nilckD rfl) ?_
     refine don rfl rfl ?_
     refine de rfl (e_faddrD rfl) ?_
     refine don rfl rfl ?_
     refine de rfl (e_load1D rfl (DP.fld (DP.refl _) (lrg27_Max n))) ?_
     refine dn 4 rfl ?_
     refine dz ?_
     refine rn 0 rfl ?_
     refine ci hF rfl (fun c_8 hF => ?_) (fun c_8 hF => ?_)
     · refine rn 1 rfl ?_
       cases hF
       exact rD (rlt rl0) rfl
     refine rj 0 2 rfl ?_
     exact w31 (.p1 n ((ls n.Kids).length : Int) 1) _ hF _ _ ⟨rfl, rfl, rfl, trivial⟩ hs
   refine dfx 39 rfl c_6 ?_
   refine dn 18 rfl ?_
   refine dz ?_
   refine rn 0 rfl ?_
   refine cf rfl rfl ?_
   refine rj 0 2 rfl ?_
   exact w31 (.p1 n ((ls n.Kids).length : Int) 1) _ hF _ _ ⟨rfl, rfl, rfl, trivial⟩ hs
 refine rn 2 rfl ?_
 refine ci hF rfl (fun c_9 hF => ?_) (fun c_9 hF => ?_)
 · refine rj 1 2 rfl ?_
   exact w31 (.p1 n ((ls n.Kids).length : Int) 1) _ hF _ _ ⟨rfl, rfl, rfl, trivial⟩ hs
 refine rn 2 rfl ?_
 refine ci hF rfl (fun c_10 hF => ?_) (fun c_10 hF => ?_)
 · refine rn 0 rfl ?_
   refine ct rfl c_10 ?_
   refine rj 0 2 rfl ?_
   exact w31 (.p1 n ((ls n.Kids).length : Int) 0) _ hF _ _ ⟨rfl, rfl, rfl, trivial⟩ hs
 refine rn 2 rfl ?_
 refine ci hF rfl (fun c_11 hF => ?_) (fun c_11 hF => ?_)
 · refine rn 0 rfl ?_
   refine ct rfl c_11 ?_
   refine rj 0 2 rfl ?_
   exact w31 (.p1 n ((ls n.Kids).length : Int) 0) _ hF _ _ ⟨rfl, rfl, rfl, trivial⟩ hs
 refine rn 2 rfl ?_
 refine ci hF rfl (fun c_12 hF => ?_) (fun c_12 hF => ?_)
 · refine rn 0 rfl ?_
   refine ct rfl c_12 ?_
   refine rj 0 2 rfl ?_
   exact w31 (.p1 n ((ls n.Kids).length : Int) 0) _ hF _ _ ⟨rfl, rfl, rfl, trivial⟩ hs
 refine rn 2 rfl ?_
 refine ci hF rfl (fun c_13 hF => ?_) (fun c_13 hF => ?_)
 · refine rn 0 rfl ?_
   refine ct rfl c_13 ?_
   refine rj 0 2 rfl ?_
   exact w31 (.p1 n ((ls n.Kids).length : Int) 0) _ hF _ _ ⟨rfl, rfl, rfl, trivial⟩ hs
 refine rn 2 rfl ?_
 refine ci hF rfl (fun c_14 hF => ?_) (fun c_14 hF => ?_)
 · refine rj 0 2 rfl ?_
   exact w31 (.p1 n ((ls n.Kids).length : Int) 0) _ hF _ _ ⟨rfl, rfl, rfl, trivial⟩ hs
 refine rn 1 rfl ?_
 cases hF
 exact rD (rlt rl0) rfl
def C38_34 : ACode := .ops [q 41 (.mv 5), q 42 (.mv 9), q 43 (.max [41, 42]), q 5 (.mv 43)]
def C38_24 : ACode := .s (.ops [q 22 (.iaddrL 9 18 20), q 23 (.loadN 9 22), q 7 (.alloc [(.int .u8 0), (.int .u64 0), (.int .u64 0), (.int .u64 0), (.int .u64 0), (.int .i64 0), (.int .i64 0), (.int .i64 0), .nils]), q0 (.store 9 7 23)]) (.s (.ops [q 25 (.loadN 9 7), qc 26 38 [25], q 24 (.mv 26), q 27 (.extract 24 0), q 28 (.extract 24 1), q 8 (.mv 27), q 9 (.mv 28)]) (.s (.s (.ops [q 29 (.mv 8), q 30 (.binI .gtr 29 (ki 0)), q 31 (.mv 30), (q 32 (.mv 4)).y 31, (q 33 (.binI .eql 32 (ki 0))).y 31, (q 34 (.mv 33)).y 31, (q 35 (.mv 8)).n 34, (q 36 (.mv 4)).n 34, (q 37 (.binI .lss 35 36)).n 34, (q 38 (.pick 34 (.c (.bool true)) 37)).y 31, q 39 (.pick 31 38 (.c (.bool false)))]) (.cond 39 (.ops [q 40 (.mv 8), q 4 (.mv 40)]) .skip)) C38_34))
def C38_35 : ACode := .ops [q 44 (.binI .add 20 (ki 1)), q 20 (.mv 44)]
def C38_16 : ACode := .s (.ops [q 21 (.binI .lss 20 19)]) (.s (.cond 21 .skip (.exit 0)) (.s (.block 1 C38_24) C38_35))
def C38_36 : ACode := .s (.ops [q 45 (.mv 4), q 46 (.mv 5), q 2 (.mv 45), q 3 (.mv 46)]) .ret
def C38_11 : ACode := .s (.s (.ops [q 17 (.faddr 8 1), q 18 (.load1 17), q 19 (.len 18), q 20 (.mv (ki 0))]) (.block 0 (.loop C38_16))) C38_36
def C38_1 : ACode := .s (.ops [q 1 (.boxD 9 0), q 2 (.mv (ki 0)), q 3 (.mv (ki 0))]) (.s (.ops [q 4 (.mv (ki 0)), q 5 (.mv (ki 0))]) (.s (.s (.ops [q 10 (.faddr 0 1), q 11 (.load1 10), q 12 (.binI .eql 11 (ku 6))]) (.cond 12 (.draw [] 0 0 [q 13 (.faddr 7 1), q 14 (.load1 13), q 15 (.faddr 7 1), q 16 (.load1 15), q 4 (.mv 14), q 5 (.mv 16)] []) .skip)) C38_11))
def R38 : List RA := [(.tmp 2), (.tmp 3)]
theorem k38 : compF Try.prog (muL [1]) 38 = some ⟨47, C38_1, R38⟩ := by kernel_rfl
noncomputable abbrev X38 (r : Int × Int) : Cx := cD Try.prog noG 47 R38 (AV.tup [AV.int .i64 r.1, AV.int .i64 r.2]) [1]
inductive St38 where
 | e (n : T27)
 | p1 (n : T27) (low : Int) (high : Int)
 | p2 (low : Int) (high : Int) (t18_ : Sl T27) (t19_ : Int) (t20_ : Int)
 | p3 (low : Int) (high : Int) (b : Int) (t18_ : Sl T27) (t19_ : Int) (t20_ : Int)
noncomputable def G38 : St38 → Option (Int × Int) | .e n => (if (n.Kind == 6) = true then (G38 (.p1 n n.Group n.Group)) else (G38 (.p1 n 0 0))) | .p1 n low high => (G38 (.p2 low high n.Kids ((ls n.Kids).length : Int) 0)) | .p2 low high t18_ t19_ t20_ => (if (decide (t20_ < t19_)) = true then (ix (ls t18_) t20_ >>= fun v_3 => (G38 (.e v_3) >>= fun r_6 => (if (decide (r_6.1 > 0)) = true then (if (low == 0) = true then (G38 (.p3 r_6.1 high r_6.2 t18_ t19_ t20_)) else (if (decide (r_6.1 < low)) = true then (G38 (.p3 r_6.1 high r_6.2 t18_ t19_ t20_)) else (G38 (.p3 low high r_6.2 t18_ t19_ t20_)))) else (G38 (.p3 low high r_6.2 t18_ t19_ t20_))))) else (some (low, high))) | .p3 low high b t18_ t19_ t20_ => (G38 (.p2 low (if b > high then b else high) t18_ t19_ (IntKind.wrap .i64 (t20_ + 1)))) partial_fixpoint
def M38 (x : St38) (r : Int × Int) : Prop := match x with | .e n => DFun Try.prog noG 38 [v27 n] (AV.tup [AV.int .i64 r.1, AV.int .i64 r.2]) | .p1 n low high => ∀ (tm : Fr) (st : Store), Frm tm [(1, .dptr (c27 n)), (4, AV.int .i64 low), (5, AV.int .i64 high)] → SH st [] → W (X38 r) [.code C38_11] tm st | .p2 low high t18_ t19_ t20_ => ∀ (tm : Fr) (st : Store), Frm tm [(4, AV.int .i64 low), (5, AV.int .i64 high), (18, slV 9 v27 t18_), (19, AV.int .i64 t19_), (20, AV.int .i64 t20_)] → SH st [] → W (X38 r) [.lp C38_16, .blk 0, .code C38_36] tm st | .p3 low high b t18_ t19_ t20_ => ∀ (tm : Fr) (st : Store), Frm tm [(4, AV.int .i64 low), (5, AV.int .i64 high), (9, AV.int .i64 b), (18, slV 9 v27 t18_), (19, AV.int .i64 t19_), (20, AV.int .i64 t20_)] → SH st [] → W (X38 r) [.code C38_34, .blk 1, .code C38_35, .lp C38_16, .blk 0, .code C38_36] tm st
theorem w38 : ∀ (x : St38) (r : Int × Int), G38 x = some r → M38 x r := by
 refine G38.partial_correctness (M38) ?_
 intro g ih x r hF
 cases x with
 | e n =>
  dsimp only at hF
  refine bD k38 rfl ?_
  have hs : SH [] [] := SH.nil
  generalize ([] : Store) = st at hs ⊢
  refine rn 0 rfl ?_
  refine W.o (e_boxD (cs := c27 n) rfl (by rw [c27_len]; rfl) (c27_one _)) ?_
  refine rn 4 rfl ?_
  refine W.o (e_faddrD rfl) ?_
  refine W.o (e_load1D rfl (DP.fld (DP.refl _) (lrg27_Kind n))) ?_
  refine rn 1 rfl ?_
  refine ci hF rfl (fun c_1 hF => ?_) (fun c_1 hF => ?_)
  · have h0 := hs
    refine dr0 ?_
    refine de rfl (e_faddrD rfl) ?_
    refine de rfl (e_load1D rfl (DP.fld (DP.refl _) (lrg27_Group n))) ?_
    refine de rfl (e_faddrD rfl) ?_
    refine de rfl (e_load1D rfl (DP.fld (DP.refl _) (lrg27_Group n))) ?_
    refine dn 2 rfl ?_
    refine dz ?_
    refine rj 0 1 rfl ?_
    exact ih _ _ hF _ _ ⟨rfl, rfl, rfl, trivial⟩ hs
  refine rj 0 1 rfl ?_
  exact ih _ _ hF _ _ ⟨rfl, rfl, rfl, trivial⟩ hs
 | p1 n low high =>
  dsimp only at hF
  intro tm st hf hs
  refine en hf ?_
  refine rn 0 rfl ?_
  refine W.o (e_faddrD rfl) ?_
  refine W.o (e_load1D rfl (DP.fld (DP.refl _) (lrg27_Kids n))) ?_
  refine W.o (e_len (rd_V rfl)) ?_
  refine rn 1 rfl ?_
  exact ih _ _ hF _ _ ⟨rfl, rfl, rfl, rfl, rfl, trivial⟩ hs
 | p2 low high t18_ t19_ t20_ =>
  dsimp only at hF
  intro tm st hf hs
  refine en hf ?_
  refine lp ?_
  refine rn 1 rfl ?_
  refine ci hF rfl (fun c_2 hF => ?_) (fun c_2 hF => ?_)
  · obtain ⟨v_3, g_4, hF⟩ := bind_some hF
    refine rn 0 rfl ?_
    refine W.o (e_iaddrL (rd_V rfl) rfl g_4) ?_
    refine W.o (e_loadND rfl (DP.refl _) (c27_len _)) ?_
    refine al hs (cs := c27 ({ Kind := 0, Set := (Arr.rep 4 (0 : Int)), Min := 0, Max := 0, Group := 0, Kids := none } : T27)) rfl fun st b_5 hs => ?_
    refine sl hs 0 rfl rfl (LR.whole _ _) (c27_len _) rfl (c27_len _) (c27_one _) rfl fun st hs => ?_
    refine rn 0 rfl ?_
    refine W.o (e_loadN rfl (hs.g 0 rfl) (LR.whole _ _) (c27_len _)) ?_
    obtain ⟨r_6, g_7, hF⟩ := bind_some hF
    refine df (ih (.e v_3) _ g_7) rfl ?_
    refine rn 8 rfl ?_
    refine bi hF (fun c_8 hF => ?_) (fun c_8 hF => ?_)
    · refine wfx 31 rfl c_8 ?_
      refine rn 3 rfl ?_
      refine bi hF (fun c_9 hF => ?_) (fun c_9 hF => ?_)
      · refine wfx 34 rfl c_9 ?_
        refine rn 5 rfl ?_
        refine ct rfl rfl ?_
        refine rj 2 1 rfl ?_
        exact ih _ _ hF _ _ ⟨rfl, rfl, rfl, rfl, rfl, rfl, trivial⟩ (hs.p 1 [] rfl)
      refine wfx 34 rfl c_9 ?_
      refine rn 5 rfl ?_
      refine ci hF rfl (fun c_10 hF => ?_) (fun c_10 hF => ?_)
      · refine rj 2 1 rfl ?_
        exact ih _ _ hF _ _ ⟨rfl, rfl, rfl, rfl, rfl, rfl, trivial⟩ (hs.p 1 [] rfl)
      refine rj 0 1 rfl ?_
      exact ih _ _ hF _ _ ⟨rfl, rfl, rfl, rfl, rfl, rfl, trivial⟩ (hs.p 1 [] rfl)
    refine wfx 31 rfl c_8 ?_
    refine rn 8 rfl ?_
    refine cf rfl rfl ?_
    refine rj 0 1 rfl ?_
    exact ih _ _ hF _ _ ⟨rfl, rfl, rfl, rfl, rfl, rfl, trivial⟩ (hs.p 1 [] rfl)
  refine rn 4 rfl ?_
  cases hF
  exact rD (rlt (rlt rl0)) rfl
 | p3 low high b t18_ t19_ t20_ =>
  dsimp only at hF
  intro tm st hf hs
  refine en hf ?_
  refine rn 6 rfl ?_
  exact ih _ _ hF _ _ ⟨rfl, rfl, rfl, rfl, rfl, trivial⟩ hs
noncomputable def F38 (n : T27) : Option (Int × Int) := G38 (.e n)
theorem d38 (n : T27) (r : Int × Int) (hF : F38 n = some r) : DFun Try.prog noG 38 [v27 n] (AV.tup [AV.int .i64 r.1, AV.int .i64 r.2]) := by
 exact w38 (.e n) r hF
def C29_1 : ACode := .s (.ops [q 1 (.boxD 1 0), q 2 (.mv (.c .nilfn))]) (.s (.ops [q 3 (.mkfn 40 [1]), q 2 (.mv 3)]) .ret)
def R29 : List RA := [(.tmp 2)]
theorem k29 : compF Try.prog (muL [1]) 29 = some ⟨4, C29_1, R29⟩ := by kernel_rfl
noncomputable def F29 (n : T27) : Option T27 := (some n)
theorem d29 (n : T27) (r : T27) (hF : F29 n = some r) : DFun Try.prog noG 29 [.dptr (c27 n)] (.fn 40 [.dptr [.dptr (c27 r)]]) := by
 unfold F29 at hF
 refine bD k29 rfl ?_
 have hs : SH [] [] := SH.nil
 generalize ([] : Store) = st at hs ⊢
 refine rn 0 rfl ?_
 refine W.o (e_boxD (cs := [.dptr (c27 n)]) rfl rfl rfl) ?_
 refine rn 3 rfl ?_
 cases hF
 exact rD (rlt rl0) rfl
def C41_26 : ACode := .s (.draw [] 0 0 [q 18 (.load1 2), q 19 (.mv 0), q 20 (.nilck 19), q 21 (.faddr 8 20), q 22 (.load1 21), q 23 (.mv 5), q 24 (.iaddrL 9 22 23)] [qf 25 18 [24], q 26 (.un .not 25)]) (.cond 26 (.s (.ops [q 4 (.mv (.c (.bool false)))]) .ret) .skip)
def C41_16 : ACode := .s (.ops [q 16 (.binI .lss 15 14)]) (.s (.cond 16 .skip (.exit 0)) (.s (.block 1 (.s (.ops [q 17 (.mv 15), q 5 (.mv 17)]) C41_26)) (.ops [q 27 (.binI .add 15 (ki 1)), q 15 (.mv 27)])))
def C41_34 : ACode := .s (.ops [q 4 (.mv (.c (.bool true)))]) .ret
def C41_1 : ACode := .s (.ops [q 4 (.mv (.c (.bool false)))]) (.s (.s (.ops [q 6 (.load1 1), q 7 (.mv 0), qf 8 6 [7], q 9 (.un .not 8)]) (.cond 9 (.s (.ops [q 4 (.mv (.c (.bool false)))]) .ret) .skip)) (.s (.s (.ops [q 10 (.mv 0), q 11 (.nilck 10), q 12 (.faddr 8 11), q 13 (.load1 12), q 14 (.len 13), q 15 (.mv (ki 0))]) (.block 0 (.loop C41_16))) C41_34))
def R41 : List RA := [(.tmp 4)]
theorem k41 : compF Try.prog (muL []) 41 = some ⟨28, C41_1, R41⟩ := by kernel_rfl
noncomputable abbrev X41 (K : AV → Store → Prop) : Cx := cK Try.prog noG 28 R41 (isK K)
inductive St41 (σ : Type) where
 | e (n : T27) (s_ : σ)
 | p1 (n : T27) (t14_ : Int) (t15_ : Int) (s_ : σ)
noncomputable def G41 {σ : Type} (Y : T27 → σ → Option (Bool × σ)) : St41 σ → Option (Bool × σ) | .e n s_ => (Y n s_ >>= fun r_1 => (if (!r_1.1) = true then (some (false, r_1.2)) else (G41 Y (.p1 n ((ls n.Kids).length : Int) 0 r_1.2)))) | .p1 n t14_ t15_ s_ => (if (decide (t15_ < t14_)) = true then (ix (ls n.Kids) t15_ >>= fun v_5 => (G41 Y (.e v_5 s_) >>= fun r_7 => (if (!r_7.1) = true then (some (false, r_7.2)) else (G41 Y (.p1 n t14_ (IntKind.wrap .i64 (t15_ + 1)) r_7.2))))) else (some (true, s_))) partial_fixpoint
def M41 {σ : Type} (H : σ → Asn) (iY0 : Nat) (x : St41 σ) (r : Bool × σ) : Prop := match x with | .e n s_ => ∀ (K : AV → Store → Prop) (Ls : List Asn) (iW1 : Nat), (∀ st, SH st (H r.2 :: pt iW1 (.cells [.fn 41 [.dptr [.yld iY0], .ptr iW1 0]]) :: Ls) → K (AV.bool r.1) st) → ∀ (st : Store), SH st (H s_ :: pt iW1 (.cells [.fn 41 [.dptr [.yld iY0], .ptr iW1 0]]) :: Ls) → XCall Try.prog noG 41 [.dptr (c27 n), .dptr [.yld iY0], .ptr iW1 0] st K | .p1 n t14_ t15_ s_ => ∀ (K : AV → Store → Prop) (Ls : List Asn) (iW1 : Nat), (∀ st, SH st (H r.2 :: pt iW1 (.cells [.fn 41 [.dptr [.yld iY0], .ptr iW1 0]]) :: Ls) → K (AV.bool r.1) st) → ∀ (tm : Fr) (st : Store), Frm tm [(0, .dptr (c27 n)), (2, .ptr iW1 0), (14, AV.int .i64 t14_), (15, AV.int .i64 t15_)] → SH st (H s_ :: pt iW1 (.cells [.fn 41 [.dptr [.yld iY0], .ptr iW1 0]]) :: Ls) → W (X41 K) [.lp C41_16, .blk 0, .code C41_34] tm st
theorem w41 {σ : Type} {H : σ → Asn} {Y : T27 → σ → Option (Bool × σ)} (iY0 : Nat) (hY : ∀ (x : T27) (s : σ) (r : Bool × σ), Y x s = some r → ∀ (K : AV → Store → Prop) (L : List Asn) (st : Store), SH st (H s :: L) → (∀ st, SH st (H r.2 :: L) → K (.bool r.1) st) → XYield Try.prog noG iY0 [.dptr (c27 x)] st K) : ∀ (x : St41 σ) (r : Bool × σ), G41 Y x = some r → M41 H iY0 x r := by
 refine G41.partial_correctness Y (M41 H iY0) ?_
 intro g ih x r hF
 cases x with
 | e n s_ =>
  dsimp only at hF
  intro K Ls iW1 hK  st hs
  refine bS k41 rfl ?_
  refine rn 1 rfl ?_
  refine W.o (l1D rfl rfl) ?_
  obtain ⟨r_1, g_2, hF⟩ := bind_some hF
  refine rn 1 rfl ?_
  refine cy rfl rfl (hY _ _ _ g_2 _ _ _ hs fun st hs => ?_)
  refine rn 1 rfl ?_
  refine ci hF rfl (fun c_3 hF => ?_) (fun c_3 hF => ?_)
  · refine rn 1 rfl ?_
    cases hF
    exact rS (rlt rl0) (hK _ hs) rfl
  refine rn 1 rfl ?_
  refine W.o (e_nilckD rfl) ?_
  refine W.o (e_faddrD rfl) ?_
  refine W.o (e_load1D rfl (DP.fld (DP.refl _) (lrg27_Kids n))) ?_
  refine W.o (e_len (rd_V rfl)) ?_
  refine rn 1 rfl ?_
  exact ih _ _ hF K Ls iW1 hK _ _ ⟨rfl, rfl, rfl, rfl, trivial⟩ hs
 | p1 n t14_ t15_ s_ =>
  dsimp only at hF
  intro K Ls iW1 hK tm st hf hs
  refine en hf ?_
  refine lp ?_
  refine rn 1 rfl ?_
  refine ci hF rfl (fun c_4 hF => ?_) (fun c_4 hF => ?_)
  · refine rn 2 rfl ?_
    have h0 := hs
    refine dr0 ?_
    refine de rfl (l1 rfl (h0.g 1 rfl) rfl) ?_
    refine dn 1 rfl ?_
    refine de rfl (e_nilckD rfl) ?_
    refine de rfl (e_faddrD rfl) ?_
    refine de rfl (e_load1D rfl (DP.fld (DP.refl _) (lrg27_Kids n))) ?_
    obtain ⟨v_5, g_6, hF⟩ := bind_some hF
    refine dn 1 rfl ?_
    refine de rfl (e_iaddrL (rd_V rfl) rfl g_6) ?_
    refine dz ?_
    obtain ⟨r_7, g_8, hF⟩ := bind_some hF
    refine cv rfl (by kernel_rfl) (ale rfl) (ih (.e v_5 s_) _ g_8 _ _ iW1 (fun st hs => ?_) _ hs)
    refine rn 1 rfl ?_
    refine ci hF rfl (fun c_9 hF => ?_) (fun c_9 hF => ?_)
    · refine rn 1 rfl ?_
      cases hF
      exact rS (rlt rl0) (hK _ hs) rfl
    refine rn 2 rfl ?_
    exact ih _ _ hF K Ls iW1 hK _ _ ⟨rfl, rfl, rfl, rfl, trivial⟩ hs
  refine rn 1 rfl ?_
  cases hF
  exact rS (rlt rl0) (hK _ hs) rfl
noncomputable def F41 {σ : Type} (Y : T27 → σ → Option (Bool × σ)) (n : T27) (s_ : σ) : Option (Bool × σ) := G41 Y (.e n s_)
theorem d41 {σ : Type} {H : σ → Asn} {Y : T27 → σ → Option (Bool × σ)} (iY0 : Nat) (hY : ∀ (x : T27) (s : σ) (r : Bool × σ), Y x s = some r → ∀ (K : AV → Store → Prop) (L : List Asn) (st : Store), SH st (H s :: L) → (∀ st, SH st (H r.2 :: L) → K (.bool r.1) st) → XYield Try.prog noG iY0 [.dptr (c27 x)] st K) (n : T27) (s_ : σ) (r : Bool × σ) (hF : F41 Y n s_ = some r) : ∀ (K : AV → Store → Prop) (Ls : List Asn) (iW1 : Nat), (∀ st, SH st (H r.2 :: pt iW1 (.cells [.fn 41 [.dptr [.yld iY0], .ptr iW1 0]]) :: Ls) → K (AV.bool r.1) st) → ∀ (st : Store), SH st (H s_ :: pt iW1 (.cells [.fn 41 [.dptr [.yld iY0], .ptr iW1 0]]) :: Ls) → XCall Try.prog noG 41 [.dptr (c27 n), .dptr [.yld iY0], .ptr iW1 0] st K := by
 exact (w41 iY0 hY) (.e n s_) r hF
def C40_1 : ACode := .s (.ops [q 2 (.boxD 1 0)]) (.s (.ops [q 3 (.alloc [.nilfn])]) (.s (.ops [q 4 (.mkfn 41 [2, 3]), q0 (.store 1 3 4)]) (.ops [q 5 (.load1 3), q 6 (.load1 1), qf 7 5 [6]])))
def R40 : List RA := []
theorem k40 : compF Try.prog (muL [2]) 40 = some ⟨8, C40_1, R40⟩ := by kernel_rfl
noncomputable def F40 {σ : Type} (Y : T27 → σ → Option (Bool × σ)) (d0_ : T27) (s_ : σ) : Option σ := (F41 Y d0_ s_ >>= fun r_2 => (some r_2.2))
theorem d40 {σ : Type} {H : σ → Asn} {Y : T27 → σ → Option (Bool × σ)} (iY0 : Nat) (hY : ∀ (x : T27) (s : σ) (r : Bool × σ), Y x s = some r → ∀ (K : AV → Store → Prop) (L : List Asn) (st : Store), SH st (H s :: L) → (∀ st, SH st (H r.2 :: L) → K (.bool r.1) st) → XYield Try.prog noG iY0 [.dptr (c27 x)] st K) (d0_ : T27) (s_ : σ) (r : σ) (hF : F40 Y d0_ s_ = some r) : ∀ (K : AV → Store → Prop) (Ls : List Asn), (∀ st, SH st (H r :: Ls) → K (AV.tup []) st) → ∀ (st : Store), SH st (H s_ :: Ls) → XCall Try.prog noG 40 [.yld iY0, .dptr [.dptr (c27 d0_)]] st K := by
 unfold F40 at hF
 intro K Ls hK  st hs
 refine bS k40 rfl ?_
 refine rn 0 rfl ?_
 refine W.o (e_boxD (cs := [.yld iY0]) rfl rfl rfl) ?_
 refine rn 0 rfl ?_
 refine al hs (cs := [.nilfn]) rfl fun st b_1 hs => ?_
 refine rn 1 rfl ?_
 refine sr hs 0 rfl rfl rfl (cs' := [.fn 41 [.dptr [.yld iY0], .ptr b_1 0]]) rfl rfl fun st hs => ?_
 refine rn 0 rfl ?_
 refine W.o (l1 rfl (hs.g 0 rfl) rfl) ?_
 refine W.o (l1D rfl rfl) ?_
 obtain ⟨r_2, g_3, hF⟩ := bind_some hF
 refine cv rfl (by kernel_rfl) (ale rfl) (d41 iY0 hY d0_ s_ _ g_3 _ _ b_1 (fun st hs => ?_) _ (hs.p 2 [1, 0] rfl))
 refine rn 0 rfl ?_
 cases hF
 exact eS rl0 (hK _ (hs.p 2 [0] rfl)) rfl
def C28_10 : ACode := .ops [q 4 (.mv 6)]
def C28_11 : ACode := .block 1 (.s (.ops [q 7 (.mv 4), q 8 (.nilck 7), q 9 (.faddr 0 8), q 10 (.load1 9), q 11 (.binI .eql 10 (ku 6))]) (.cond 11 (.ops [q 12 (.load1 3), q 13 (.binI .add 12 (ki 1)), q0 (.store 1 3 13)]) .skip))
def C28_9 : ACode := .range 5 [6] C28_10 C28_11
def C28_17 : ACode := .s (.ops [q 14 (.load1 3), q 2 (.mv 14)]) .ret
def C28_1 : ACode := .s (.ops [q 1 (.boxD 9 0), q 2 (.mv (ki 0))]) (.s (.ops [q 3 (.alloc [(.int .i64 0)]), q0 (.store 1 3 (ki 0))]) (.s (.s (.ops [qc 5 29 [1]]) (.block 0 C28_9)) C28_17))
def R28 : List RA := [(.tmp 2)]
theorem k28 : compF Try.prog (muL [1]) 28 = some ⟨15, C28_1, R28⟩ := by kernel_rfl
noncomputable abbrev X28 (r : Int) : Cx := cD Try.prog noG 15 R28 (AV.int .i64 r) [1]
noncomputable def B28_1 (t2_ : Int) (t5_ : T27) (x : T27) (zz : Int × Nat) : Option (Bool × (Int × Nat)) := if zz.2 = 0 then (if (x.Kind == 6) = true then (some (true, (IntKind.wrap .i64 (zz.1 + 1), 0))) else (some (true, (zz.1, 0))))
else none
theorem b28_1 (t2_ : Int) (t5_ : T27) (x : T27) (zz : Int × Nat) (r : Bool × (Int × Nat)) (hF : B28_1 t2_ t5_ x zz = some r) (K : AV → Store → Prop) (Ls : List Asn) (iL : Nat) (ca cb : Code) (tm0 : Fr) (io0 : Nat) (q1 : compC Try.prog 15 (rnd (muL [1])) ca = some C28_10) (q2 : compC Try.prog 15 (rnd (muL [1])) cb = some C28_11) (hf : Frm tm0 [(2, AV.int .i64 t2_), (3, .ptr io0 0), (5, .fn 40 [.dptr [.dptr (c27 t5_)]])]) (hK : ∀ st, SH st (bun [pt iL (.loop 15 [6] ca cb tm0 (lsW r.2.2) (ljW [] r.2.2)), pt io0 (.cells (cI .i64 r.2.1))] :: Ls) → K (.bool r.1) st) (st : Store) (hs : SH st (bun [pt iL (.loop 15 [6] ca cb tm0 (lsW zz.2) (ljW [] zz.2)), pt io0 (.cells (cI .i64 zz.1))] :: Ls)) : XYield Try.prog noG iL [.dptr (c27 x)] st K := by
 unfold B28_1 at hF
 obtain ⟨c_, hF⟩ := grd_some hF
 replace hs : SH st ([pt iL (.loop 15 [6] ca cb tm0 (lsW zz.2) (ljW [] zz.2)), pt io0 (.cells (cI .i64 zz.1))] ++ Ls) := SH.unbun hs
 rw [c_] at hs
 replace hs : SH st (pt iL (.loop 15 [6] ca cb tm0 .ready none) :: pt io0 (.cells (cI .i64 zz.1)) :: Ls) := hs
 replace hK : (∀ st, SH st (pt iL (.loop 15 [6] ca cb tm0 (lsW r.2.2) (ljW [] r.2.2)) :: pt io0 (.cells (cI .i64 r.2.1)) :: Ls) → K (.bool r.1) st) := fun st hs => hK st (SH.bun hs)
 refine bR' (mu := [1]) q1 q2 hs rfl rfl (fun _ _ => trivial) ?_
 rw [putL1 hf]
 refine rn 1 rfl ?_
 refine rdW hs fun st hs => ?_
 refine rn 1 rfl ?_
 refine W.o (e_nilckD rfl) ?_
 refine W.o (e_faddrD rfl) ?_
 refine W.o (e_load1D rfl (DP.fld (DP.refl _) (lrg27_Kind x))) ?_
 refine rn 1 rfl ?_
 refine ci hF rfl (fun c_1 hF => ?_) (fun c_1 hF => ?_)
 · refine rn 0 rfl ?_
   refine W.o (l1 rfl (hs.g 1 rfl) rfl) ?_
   refine rn 1 rfl ?_
   refine sr hs 1 rfl rfl rfl (cs' := cI .i64 (IntKind.wrap .i64 (zz.1 + 1))) rfl rfl fun st hs => ?_
   refine rn 0 rfl ?_
   cases hF
   exact rdN hs (fun st hs => hK st hs)
 refine rn 0 rfl ?_
 cases hF
 exact rdN hs (fun st hs => hK st hs)
inductive St28 where
 | p1 (t2_ : Int) (t5_ : T27) (k : Int)
noncomputable def G28 : St28 → Option Int | .p1 t2_ t5_ k => (F40 (B28_1 t2_ t5_) t5_ (k, 0) >>= fun r_4 => (if r_4.2 = 0 then (some r_4.1) else none))
def M28 (x : St28) (r : Int) : Prop := match x with | .p1 t2_ t5_ k => ∀ (tm : Fr) (st : Store) (io0 : Nat), Frm tm [(2, AV.int .i64 t2_), (3, .ptr io0 0), (5, .fn 40 [.dptr [.dptr (c27 t5_)]])] → SH st [pt io0 (.cells (cI .i64 k))] → W (X28 r) [.code C28_9, .blk 0, .code C28_17] tm st
theorem w28 : ∀ (x : St28) (r : Int), G28 x = some r → M28 x r := by
 intro x r hF
 cases x with
 | p1 t2_ t5_ k =>
  dsimp only [G28] at hF
  intro tm st io0 hf hs
  obtain ⟨r_4, g_5, hF⟩ := bind_some hF
  refine rg (N := 15) (fr := []) rfl hs hf.2.2.1 (by kernel_rfl) fun ca cb st iL q1 q2 hs => ?_
  refine d40 (σ := Int × Nat) (H := fun zz => bun [pt iL (.loop 15 [6] ca cb tm (lsW zz.2) (ljW [] zz.2)), pt io0 (.cells (cI .i64 zz.1))]) (Y := B28_1 t2_ t5_) iL (fun x zz r hB K L st hs hK => b28_1 t2_ t5_ x zz r hB K L iL ca cb tm io0 q1 q2 hf hK st hs) t5_ (k, 0) _ g_5 _ _ (fun st hs => ?_) _ (SH.bun hs)
  replace hs : SH st ([pt iL (.loop 15 [6] ca cb tm (lsW r_4.2) (ljW [] r_4.2)), pt io0 (.cells (cI .i64 r_4.1))] ++ _) := SH.unbun hs
  refine ni hF (fun c_ hF => ?_) (fun c_ hF => ?_)
  · rw [c_] at hs
    refine rgN hs (by decide) fun st hs => ?_
    refine en hf ?_
    refine rn 0 rfl ?_
    refine W.o (l1 rfl (hs.g 0 rfl) rfl) ?_
    refine rn 1 rfl ?_
    cases hF
    exact rD (rlt rl0) rfl
  cases hF
noncomputable def F28 (n : T27) : Option Int := (F29 n >>= fun r_2 => (G28 (.p1 0 r_2 0)))
theorem d28 (n : T27) (r : Int) (hF : F28 n = some r) : DFun Try.prog noG 28 [v27 n] (AV.int .i64 r) := by
 unfold F28 at hF
 refine bD k28 rfl ?_
 have hs : SH [] [] := SH.nil
 generalize ([] : Store) = st at hs ⊢
 refine rn 0 rfl ?_
 refine W.o (e_boxD (cs := c27 n) rfl (by rw [c27_len]; rfl) (c27_one _)) ?_
 refine rn 1 rfl ?_
 refine al hs (cs := cI .i64 0) rfl fun st b_1 hs => ?_
 refine sr hs 0 rfl rfl rfl (cs' := cI .i64 0) rfl rfl fun st hs => ?_
 obtain ⟨r_2, g_3, hF⟩ := bind_some hF
 refine rn 0 rfl ?_
 refine df (d29 n _ g_3) rfl ?_
 refine rj 0 2 rfl ?_
 exact w28 (.p1 0 r_2 0) _ hF _ _ b_1 ⟨rfl, rfl, rfl, trivial⟩ hs
def C37_1 : ACode := .ops [q 3 (.load1 1), q 4 (.mv 0), q 5 (.binI .add 3 4), q 6 (.min [5, (ki 16385)]), q0 (.store 1 1 6)]
def R37 : List RA := []
theorem k37 : compF Try.prog (muL []) 37 = some ⟨7, C37_1, R37⟩ := by kernel_rfl
noncomputable def F37 (x_ : Int) (q0_ : Int) : Option Int := (some (if 16385 < (IntKind.wrap .i64 (q0_ + x_)) then 16385 else (IntKind.wrap .i64 (q0_ + x_))))
theorem d37 (x_ : Int) (q0_ : Int) (r : Int) (hF : F37 x_ q0_ = some r) : ∀ (K : AV → Store → Prop) (Ls : List Asn) (iQ0 : Nat), (∀ st, SH st (pt iQ0 (.cells (cI .i64 r)) :: Ls) → K (AV.tup []) st) → ∀ (st : Store), SH st (pt iQ0 (.cells (cI .i64 q0_)) :: Ls) → XCall Try.prog noG 37 [AV.int .i64 x_, .ptr iQ0 0] st K := by
 unfold F37 at hF
 intro K Ls iQ0 hK  st hs
 refine bS k37 rfl ?_
 refine rn 0 rfl ?_
 refine W.o (l1 rfl (hs.g 0 rfl) rfl) ?_
 refine rn 3 rfl ?_
 refine sr hs 0 rfl rfl rfl (cs' := cI .i64 (if 16385 < (IntKind.wrap .i64 (q0_ + x_)) then 16385 else (IntKind.wrap .i64 (q0_ + x_)))) rfl rfl fun st hs => ?_
 refine rn 0 rfl ?_
 cases hF
 exact eS rl0 (hK _ hs) rfl
def C25_20 : ACode := .s (.ops [q 19 (.binI .eql 12 (ku 4)), q 17 (.mv 19)]) (.cond 17 .skip (.ops [q 20 (.binI .eql 12 (ku 6)), q 17 (.mv 20)]))
def C25_31 : ACode := .s (.ops [q 25 (.binI .lss 24 23)]) (.s (.cond 25 .skip (.exit 1)) (.s (.block 2 (.s (.ops [q 26 (.iaddrL 9 22 24), q 27 (.loadN 9 26), q 6 (.alloc [(.int .u8 0), (.int .u64 0), (.int .u64 0), (.int .u64 0), (.int .u64 0), (.int .i64 0), (.int .i64 0), (.int .i64 0), .nils]), q0 (.store 9 6 27)]) (.ops [q 28 (.mv 4), q 29 (.loadN 9 6), qc 30 25 [29], qf 31 28 [30]]))) (.ops [q 32 (.binI .add 24 (ki 1)), q 24 (.mv 32)])))
def C25_27 : ACode := .s (.ops [q 21 (.faddr 8 1), q 22 (.load1 21), q 23 (.len 22), q 24 (.mv (ki 0))]) (.block 1 (.loop C25_31))
def C25_49 : ACode := .s (.ops [q 43 (.faddr 0 1), q 44 (.load1 43), q 45 (.binI .eql 44 (ku 6))]) (.cond 45 (.ops [q 46 (.mv 4), qf 47 46 [(ki 2)]]) .skip)
def C25_43 : ACode := .s (.s (.ops [q 33 (.faddr 0 1), q 34 (.load1 33), q 35 (.binI .eql 34 (ku 4))]) (.cond 35 (.ops [q 36 (.mv 4), q 37 (.faddr 8 1), q 38 (.load1 37), q 39 (.len 38), q 40 (.binI .sub 39 (ki 1)), q 41 (.binI .mul (ki 2) 40), qf 42 36 [41]]) .skip)) C25_49
def C25_26 : ACode := .s C25_27 C25_43
def C25_67 : ACode := .s (.ops [q 68 (.mv 4), q 69 (.faddr 5 1), q 70 (.load1 69), q 71 (.mv 7), q 72 (.binI .mul 70 71), qf 73 68 [72]]) (.s (.ops [q 74 (.faddr 6 1), q 75 (.load1 74), q 76 (.binI .eql 75 (ki (-1)))]) (.cond 76 (.ops [q 77 (.mv 4), q 78 (.mv 7), q 79 (.binI .add 78 (ki 4)), qf 80 77 [79]]) (.ops [q 81 (.mv 4), q 82 (.faddr 6 1), q 83 (.load1 82), q 84 (.faddr 5 1), q 85 (.load1 84), q 86 (.binI .sub 83 85), q 87 (.mv 7), q 88 (.binI .add 87 (ki 3)), q 89 (.binI .mul 86 88), qf 90 81 [89]])))
def C25_56 : ACode := .cond 48 (.s (.ops [q 50 (.faddr 8 1), q 51 (.load1 50), q 52 (.iaddrL 9 51 (ki 0)), q 53 (.loadN 9 52), qc 54 25 [53], q 7 (.mv 54)]) (.s (.s (.ops [q 56 (.faddr 8 1), q 57 (.load1 56), q 58 (.iaddrL 9 57 (ki 0)), q 59 (.loadN 9 58), qc 60 38 [59], q 55 (.mv 60), q 61 (.extract 55 0), q 62 (.extract 55 1), q 8 (.mv 61), q 9 (.mv 62)]) (.s (.ops [q 63 (.mv 8), q 64 (.binI .gtr 63 (ki 0))]) (.cond 64 (.ops [q 65 (.mv 7), q 66 (.binI .add 65 (ki 1)), q 67 (.min [66, (ki 16385)]), q 7 (.mv 67)]) .skip))) C25_67)) (.ops [q 13 (.mv 4), qf 14 13 [(ki 1)]])
def C25_75 : ACode := .s (.ops [q 91 (.load1 3), q 2 (.mv 91)]) .ret
def C25_1 : ACode := .s (.ops [q 1 (.boxD 9 0), q 2 (.mv (ki 0))]) (.s (.ops [q 3 (.alloc [(.int .i64 0)]), q0 (.store 1 3 (ki 0))]) (.s (.ops [q 10 (.mkfn 37 [3]), q 4 (.mv 10)]) (.s (.s (.ops [q 11 (.faddr 0 1), q 12 (.load1 11)]) (.block 0 (.s (.ops [q 16 (.binI .eql 12 (ku 1)), q 15 (.mv 16)]) (.cond 15 .skip (.s (.s (.ops [q 18 (.binI .eql 12 (ku 3)), q 17 (.mv 18)]) (.cond 17 .skip C25_20)) (.cond 17 C25_26 (.s (.ops [q 49 (.binI .eql 12 (ku 5)), q 48 (.mv 49)]) C25_56))))))) C25_75)))
def R25 : List RA := [(.tmp 2)]
theorem k25 : compF Try.prog (muL [1]) 25 = some ⟨92, C25_1, R25⟩ := by kernel_rfl
noncomputable abbrev X25 (r : Int) : Cx := cD Try.prog noG 92 R25 (AV.int .i64 r) [1]
inductive St25 where
 | e (n : T27)
 | p1 (n : T27) (sum : Int)
 | p2 (n : T27) (round : Int) (sum : Int)
 | p3 (n : T27) (t22_ : Sl T27) (t23_ : Int) (t24_ : Int) (sum : Int)
 | p4 (n : T27) (sum : Int)
noncomputable def G25 : St25 → Option Int | .e n => (if (n.Kind == 1) = true then (some 0) else (if (n.Kind == 3) = true then (G25 (.p1 n 0)) else (if (n.Kind == 4) = true then (G25 (.p1 n 0)) else (if (n.Kind == 6) = true then (G25 (.p1 n 0)) else (if (n.Kind == 5) = true then (ix (ls n.Kids) 0 >>= fun v_7 => (G25 (.e v_7) >>= fun r_9 => (ix (ls n.Kids) 0 >>= fun v_11 => (F38 v_11 >>= fun r_13 => (if (decide (r_13.1 > 0)) = true then (G25 (.p2 n (if 16385 < (IntKind.wrap .i64 (r_9 + 1)) then 16385 else (IntKind.wrap .i64 (r_9 + 1))) 0)) else (G25 (.p2 n r_9 0))))))) else (F37 1 0 >>= fun r_16 => (some r_16))))))) | .p1 n sum => (G25 (.p3 n n.Kids ((ls n.Kids).length : Int) 0 sum)) | .p2 n round sum => (F37 (IntKind.wrap .i64 (n.Min * round)) sum >>= fun r_18 => (if (n.Max == (-1)) = true then (F37 (IntKind.wrap .i64 (round + 4)) r_18 >>= fun r_21 => (some r_21)) else (F37 (IntKind.wrap .i64 ((IntKind.wrap .i64 (n.Max - n.Min)) * (IntKind.wrap .i64 (round + 3)))) r_18 >>= fun r_23 => (some r_23)))) | .p3 n t22_ t23_ t24_ sum => (if (decide (t24_ < t23_)) = true then (ix (ls t22_) t24_ >>= fun v_26 => (G25 (.e v_26) >>= fun r_29 => (F37 r_29 sum >>= fun r_31 => (G25 (.p3 n t22_ t23_ (IntKind.wrap .i64 (t24_ + 1)) r_31))))) else (if (n.Kind == 4) = true then (F37 (IntKind.wrap .i64 (2 * (IntKind.wrap .i64 (((ls n.Kids).length : Int) - 1)))) sum >>= fun r_34 => (G25 (.p4 n r_34))) else (G25 (.p4 n sum)))) | .p4 n sum => (if (n.Kind == 6) = true then (F37 2 sum >>= fun r_37 => (some r_37)) else (some sum)) partial_fixpoint
def M25 (x : St25) (r : Int) : Prop := match x with | .e n => DFun Try.prog noG 25 [v27 n] (AV.int .i64 r) | .p1 n sum => ∀ (tm : Fr) (st : Store) (io0 : Nat), Frm tm [(1, .dptr (c27 n)), (3, .ptr io0 0), (4, .fn 37 [.ptr io0 0])] → SH st [pt io0 (.cells (cI .i64 sum))] → W (X25 r) [.code C25_26, .blk 0, .code C25_75] tm st | .p2 n round sum => ∀ (tm : Fr) (st : Store) (io0 : Nat), Frm tm [(1, .dptr (c27 n)), (3, .ptr io0 0), (4, .fn 37 [.ptr io0 0]), (7, AV.int .i64 round)] → SH st [pt io0 (.cells (cI .i64 sum))] → W (X25 r) [.code C25_67, .blk 0, .code C25_75] tm st | .p3 n t22_ t23_ t24_ sum => ∀ (tm : Fr) (st : Store) (io0 : Nat), Frm tm [(1, .dptr (c27 n)), (3, .ptr io0 0), (4, .fn 37 [.ptr io0 0]), (22, slV 9 v27 t22_), (23, AV.int .i64 t23_), (24, AV.int .i64 t24_)] → SH st [pt io0 (.cells (cI .i64 sum))] → W (X25 r) [.lp C25_31, .blk 1, .code C25_43, .blk 0, .code C25_75] tm st | .p4 n sum => ∀ (tm : Fr) (st : Store) (io0 : Nat), Frm tm [(1, .dptr (c27 n)), (3, .ptr io0 0), (4, .fn 37 [.ptr io0 0])] → SH st [pt io0 (.cells (cI .i64 sum))] → W (X25 r) [.code C25_49, .blk 0, .code C25_75] tm st
theorem w25 : ∀ (x : St25) (r : Int), G25 x = some r → M25 x r := by
 refine G25.partial_correctness (M25) ?_
 intro g ih x r hF
 cases x with
 | e n =>
  dsimp only at hF
  refine bD k25 rfl ?_
  have hs : SH [] [] := SH.nil
  generalize ([] : Store) = st at hs ⊢
  refine rn 0 rfl ?_
  refine W.o (e_boxD (cs := c27 n) rfl (by rw [c27_len]; rfl) (c27_one _)) ?_
  refine rn 1 rfl ?_
  refine al hs (cs := cI .i64 0) rfl fun st b_1 hs => ?_
  refine sr hs 0 rfl rfl rfl (cs' := cI .i64 0) rfl rfl fun st hs => ?_
  refine rn 2 rfl ?_
  refine W.o (e_faddrD rfl) ?_
  refine W.o (e_load1D rfl (DP.fld (DP.refl _) (lrg27_Kind n))) ?_
  refine rn 2 rfl ?_
  refine ci hF rfl (fun c_2 hF => ?_) (fun c_2 hF => ?_)
  · refine rn 0 rfl ?_
    refine W.o (l1 rfl (hs.g 0 rfl) rfl) ?_
    refine rn 1 rfl ?_
    cases hF
    exact rD (rlt rl0) rfl
  refine rn 2 rfl ?_
  refine ci hF rfl (fun c_3 hF => ?_) (fun c_3 hF => ?_)
  · refine rn 0 rfl ?_
    refine ct rfl c_3 ?_
    exact ih _ _ hF _ _ b_1 ⟨rfl, rfl, rfl, trivial⟩ hs
  refine rn 2 rfl ?_
  refine ci hF rfl (fun c_4 hF => ?_) (fun c_4 hF => ?_)
  · refine rn 0 rfl ?_
    refine ct rfl c_4 ?_
    exact ih _ _ hF _ _ b_1 ⟨rfl, rfl, rfl, trivial⟩ hs
  refine rn 2 rfl ?_
  refine ci hF rfl (fun c_5 hF => ?_) (fun c_5 hF => ?_)
  · exact ih _ _ hF _ _ b_1 ⟨rfl, rfl, rfl, trivial⟩ hs
  refine rn 2 rfl ?_
  refine ci hF rfl (fun c_6 hF => ?_) (fun c_6 hF => ?_)
  · refine rn 0 rfl ?_
    refine W.o (e_faddrD rfl) ?_
    refine W.o (e_load1D rfl (DP.fld (DP.refl _) (lrg27_Kids n))) ?_
    obtain ⟨v_7, g_8, hF⟩ := bind_some hF
    refine W.o (e_iaddrL (rd_V rfl) rfl g_8) ?_
    refine W.o (e_loadND rfl (DP.refl _) (c27_len _)) ?_
    obtain ⟨r_9, g_10, hF⟩ := bind_some hF
    refine df (ih (.e v_7) _ g_10) rfl ?_
    refine rn 1 rfl ?_
    refine W.o (e_faddrD rfl) ?_
    refine W.o (e_load1D rfl (DP.fld (DP.refl _) (lrg27_Kids n))) ?_
    obtain ⟨v_11, g_12, hF⟩ := bind_some hF
    refine W.o (e_iaddrL (rd_V rfl) rfl g_12) ?_
    refine W.o (e_loadND rfl (DP.refl _) (c27_len _)) ?_
    obtain ⟨r_13, g_14, hF⟩ := bind_some hF
    refine df (d38 _ _ g_14) rfl ?_
    refine rn 7 rfl ?_
    refine ci hF rfl (fun c_15 hF => ?_) (fun c_15 hF => ?_)
    · refine rj 4 1 rfl ?_
      exact ih _ _ hF _ _ b_1 ⟨rfl, rfl, rfl, rfl, trivial⟩ hs
    refine rj 0 1 rfl ?_
    exact ih _ _ hF _ _ b_1 ⟨rfl, rfl, rfl, rfl, trivial⟩ hs
  obtain ⟨r_16, g_17, hF⟩ := bind_some hF
  refine rn 1 rfl ?_
  refine cv rfl (by kernel_rfl) (ale rfl) (d37 1 0 _ g_17 _ _ b_1 (fun st hs => ?_) _ hs)
  refine rn 0 rfl ?_
  refine W.o (l1 rfl (hs.g 0 rfl) rfl) ?_
  refine rn 1 rfl ?_
  cases hF
  exact rD (rlt rl0) rfl
 | p1 n sum =>
  dsimp only at hF
  intro tm st io0 hf hs
  refine en hf ?_
  refine rn 0 rfl ?_
  refine W.o (e_faddrD rfl) ?_
  refine W.o (e_load1D rfl (DP.fld (DP.refl _) (lrg27_Kids n))) ?_
  refine W.o (e_len (rd_V rfl)) ?_
  refine rn 1 rfl ?_
  exact ih _ _ hF _ _ io0 ⟨rfl, rfl, rfl, rfl, rfl, rfl, trivial⟩ hs
 | p2 n round sum =>
  dsimp only at hF
  intro tm st io0 hf hs
  refine en hf ?_
  refine rn 1 rfl ?_
  refine W.o (e_faddrD rfl) ?_
  refine W.o (e_load1D rfl (DP.fld (DP.refl _) (lrg27_Min n))) ?_
  obtain ⟨r_18, g_19, hF⟩ := bind_some hF
  refine rn 2 rfl ?_
  refine cv rfl (by kernel_rfl) (ale rfl) (d37 _ _ _ g_19 _ _ io0 (fun st hs => ?_) _ hs)
  refine rn 0 rfl ?_
  refine W.o (e_faddrD rfl) ?_
  refine W.o (e_load1D rfl (DP.fld (DP.refl _) (lrg27_Max n))) ?_
  refine rn 1 rfl ?_
  refine ci hF rfl (fun c_20 hF => ?_) (fun c_20 hF => ?_)
  · obtain ⟨r_21, g_22, hF⟩ := bind_some hF
    refine rn 3 rfl ?_
    refine cv rfl (by kernel_rfl) (ale rfl) (d37 _ _ _ g_22 _ _ io0 (fun st hs => ?_) _ hs)
    refine rn 0 rfl ?_
    refine W.o (l1 rfl (hs.g 0 rfl) rfl) ?_
    refine rn 1 rfl ?_
    cases hF
    exact rD (rlt rl0) rfl
  refine rn 1 rfl ?_
  refine W.o (e_faddrD rfl) ?_
  refine W.o (e_load1D rfl (DP.fld (DP.refl _) (lrg27_Max n))) ?_
  refine W.o (e_faddrD rfl) ?_
  refine W.o (e_load1D rfl (DP.fld (DP.refl _) (lrg27_Min n))) ?_
  obtain ⟨r_23, g_24, hF⟩ := bind_some hF
  refine rn 4 rfl ?_
  refine cv rfl (by kernel_rfl) (ale rfl) (d37 _ _ _ g_24 _ _ io0 (fun st hs => ?_) _ hs)
  refine rn 0 rfl ?_
  refine W.o (l1 rfl (hs.g 0 rfl) rfl) ?_
  refine rn 1 rfl ?_
  cases hF
  exact rD (rlt rl0) rfl
 | p3 n t22_ t23_ t24_ sum =>
  dsimp only at hF
  intro tm st io0 hf hs
  refine en hf ?_
  refine lp ?_
  refine rn 1 rfl ?_
  refine ci hF rfl (fun c_25 hF => ?_) (fun c_25 hF => ?_)
  · obtain ⟨v_26, g_27, hF⟩ := bind_some hF
    refine rn 0 rfl ?_
    refine W.o (e_iaddrL (rd_V rfl) rfl g_27) ?_
    refine W.o (e_loadND rfl (DP.refl _) (c27_len _)) ?_
    refine al hs (cs := c27 ({ Kind := 0, Set := (Arr.rep 4 (0 : Int)), Min := 0, Max := 0, Group := 0, Kids := none } : T27)) rfl fun st b_28 hs => ?_
    refine sl hs 0 rfl rfl (LR.whole _ _) (c27_len _) rfl (c27_len _) (c27_one _) rfl fun st hs => ?_
    refine rn 1 rfl ?_
    refine W.o (e_loadN rfl (hs.g 0 rfl) (LR.whole _ _) (c27_len _)) ?_
    obtain ⟨r_29, g_30, hF⟩ := bind_some hF
    refine df (ih (.e v_26) _ g_30) rfl ?_
    obtain ⟨r_31, g_32, hF⟩ := bind_some hF
    refine cv rfl (by kernel_rfl) (ale rfl) (d37 _ _ _ g_32 _ _ io0 (fun st hs => ?_) _ (hs.p 2 [1, 0] rfl))
    refine rn 2 rfl ?_
    exact ih _ _ hF _ _ io0 ⟨rfl, rfl, rfl, rfl, rfl, rfl, trivial⟩ (hs.p 2 [0] rfl)
  refine rn 0 rfl ?_
  refine W.o (e_faddrD rfl) ?_
  refine W.o (e_load1D rfl (DP.fld (DP.refl _) (lrg27_Kind n))) ?_
  refine rn 1 rfl ?_
  refine ci hF rfl (fun c_33 hF => ?_) (fun c_33 hF => ?_)
  · refine rn 1 rfl ?_
    refine W.o (e_faddrD rfl) ?_
    refine W.o (e_load1D rfl (DP.fld (DP.refl _) (lrg27_Kids n))) ?_
    refine W.o (e_len (rd_V rfl)) ?_
    obtain ⟨r_34, g_35, hF⟩ := bind_some hF
    refine rn 2 rfl ?_
    refine cv rfl (by kernel_rfl) (ale rfl) (d37 _ _ _ g_35 _ _ io0 (fun st hs => ?_) _ hs)
    refine rj 0 1 rfl ?_
    exact ih _ _ hF _ _ io0 ⟨rfl, rfl, rfl, trivial⟩ hs
  refine rj 0 1 rfl ?_
  exact ih _ _ hF _ _ io0 ⟨rfl, rfl, rfl, trivial⟩ hs
 | p4 n sum =>
  dsimp only at hF
  intro tm st io0 hf hs
  refine en hf ?_
  refine rn 0 rfl ?_
  refine W.o (e_faddrD rfl) ?_
  refine W.o (e_load1D rfl (DP.fld (DP.refl _) (lrg27_Kind n))) ?_
  refine rn 1 rfl ?_
  refine ci hF rfl (fun c_36 hF => ?_) (fun c_36 hF => ?_)
  · obtain ⟨r_37, g_38, hF⟩ := bind_some hF
    refine rn 1 rfl ?_
    refine cv rfl (by kernel_rfl) (ale rfl) (d37 _ _ _ g_38 _ _ io0 (fun st hs => ?_) _ hs)
    refine rn 0 rfl ?_
    refine W.o (l1 rfl (hs.g 0 rfl) rfl) ?_
    refine rn 1 rfl ?_
    cases hF
    exact rD (rlt rl0) rfl
  refine rn 0 rfl ?_
  refine W.o (l1 rfl (hs.g 0 rfl) rfl) ?_
  refine rn 1 rfl ?_
  cases hF
  exact rD (rlt rl0) rfl
noncomputable def F25 (n : T27) : Option Int := G25 (.e n)
theorem d25 (n : T27) (r : Int) (hF : F25 n = some r) : DFun Try.prog noG 25 [v27 n] (AV.int .i64 r) := by
 exact w25 (.e n) r hF
def C30_20 : ACode := .ops [q 32 (.load1 3), q 33 (.bslice 1 1 false [(.bool false)] [(0, (1, (.c (.bool false))))] false), q 34 (.appR 1 1 32 33), q0 (.store 1 3 34)]
def O30_24q1 : List AOp := (q 61 (.faddr 7 60)).y 57 :: (q 62 (.load1 61)).y 57 :: (q 63 (.binI .sub 62 (ki 1))).y 57 :: (q 64 (.iaddrL 1 58 63)).y 57 :: (q 65 (.load1 64)).y 57 :: q 66 (.pick 57 65 (.c (.bool false))) :: []
def O30_24q0 : List AOp := q 37 (.mv 0) :: q 38 (.nilck 37) :: q 39 (.faddr 7 38) :: q 40 (.load1 39) :: q 41 (.binI .geq 40 (ki 1)) :: q 42 (.mv 41) :: (q 43 (.mv 0)).y 42 :: (q 44 (.nilck 43)).y 42 :: (q 45 (.faddr 7 44)).y 42 :: (q 46 (.load1 45)).y 42 :: (q 47 (.binI .leq 46 (ki 9))).y 42 :: q 48 (.pick 42 47 (.c (.bool false))) :: q 49 (.mv 48) :: (q 50 (.mv 0)).y 49 :: (q 51 (.nilck 50)).y 49 :: (q 52 (.faddr 7 51)).y 49 :: (q 53 (.load1 52)).y 49 :: (q 54 (.load1 2)).y 49 :: (q 55 (.binI .leq 53 54)).y 49 :: q 56 (.pick 49 55 (.c (.bool false))) :: q 57 (.mv 56) :: (q 58 (.load1 3)).y 57 :: (q 59 (.mv 0)).y 57 :: (q 60 (.nilck 59)).y 57 :: O30_24q1
def C30_39 : ACode := .s (.ops [q 74 (.mv 72), q 6 (.mv 74)]) (.s (.ops [q 75 (.load1 1)]) (.cond 75 (.draw [] 0 0 [q 76 (.load1 4), q 77 (.mv 0), q 78 (.nilck 77), q 79 (.faddr 8 78), q 80 (.load1 79), q 81 (.mv 6), q 82 (.iaddrL 9 80 81)] [qf 83 76 [82]]) .skip))
def C30_31 : ACode := .s (.ops [q 73 (.binI .lss 72 71)]) (.s (.cond 73 .skip (.exit 1)) (.s (.block 2 C30_39) (.ops [q 84 (.binI .add 72 (ki 1)), q 72 (.mv 84)])))
def C30_47 : ACode := .s (.ops [q 85 (.load1 1), q 86 (.mv 85), (q 87 (.mv 0)).y 86, (q 88 (.nilck 87)).y 86, (q 89 (.faddr 0 88)).y 86, (q 90 (.load1 89)).y 86, (q 91 (.binI .eql 90 (ku 6))).y 86, q 92 (.pick 86 91 (.c (.bool false)))]) (.cond 92 (.draw [] 0 0 [q 93 (.load1 3), q 94 (.mv 0), q 95 (.nilck 94), q 96 (.faddr 7 95), q 97 (.load1 96), q 98 (.binI .sub 97 (ki 1)), q 99 (.iaddrL 1 93 98)] [q0 (.store 1 99 (.c (.bool true)))]) .skip)
def C30_26 : ACode := .s (.s (.ops [q 67 (.mv 0), q 68 (.nilck 67), q 69 (.faddr 8 68), q 70 (.load1 69), q 71 (.len 70), q 72 (.mv (ki 0))]) (.block 1 (.loop C30_31))) C30_47
def C30_3 : ACode := .s (.s (.ops [q 12 (.load1 1), q 13 (.un .not 12)]) (.cond 13 .ret .skip)) (.s (.s (.ops [q 14 (.mv 0), q 15 (.nilck 14), q 16 (.faddr 0 15), q 17 (.load1 16)]) (.block 0 (.s (.ops [q 19 (.binI .eql 17 (ku 6)), q 18 (.mv 19)]) (.cond 18 (.s (.ops [q 20 (.load1 2), q 21 (.binI .add 20 (ki 1)), q0 (.store 1 2 21)]) (.s (.draw [] 0 0 [q 22 (.mv 0), q 23 (.nilck 22), q 24 (.faddr 7 23), q 25 (.load1 24), q 26 (.load1 2), q 27 (.binI .eql 25 26), q 28 (.mv 27), (q 29 (.load1 2)).y 28, (q 30 (.binI .leq 29 (ki 99))).y 28, q 31 (.pick 28 30 (.c (.bool false)))] [q0 (.store 1 1 31)]) C30_20)) (.s (.ops [q 36 (.binI .eql 17 (ku 7)), q 35 (.mv 36)]) (.cond 35 (.draw [] 0 0 O30_24q0 [q0 (.store 1 1 66)]) .skip)))))) C30_26)
def C30_1 : ACode := .s (.ops [q 7 (.load1 1), q 8 (.mv 7), (q 9 (.mv 0)).y 8, (qc 10 31 [9]).y 8, q 11 (.pick 8 10 (.c (.bool false))), q0 (.store 1 1 11)]) C30_3
def R30 : List RA := []
theorem k30 : compF Try.prog (muL [34]) 30 = some ⟨100, C30_1, R30⟩ := by kernel_rfl
noncomputable abbrev X30 (K : AV → Store → Prop) : Cx := cK Try.prog noG 100 R30 (isK K) [34]
inductive St30 where
 | e (n : T27) (q0_ : Bool) (q1_ : Int) (q2_ : Sl Bool)
 | p1 (n : T27) (q0_ : Bool) (q1_ : Int) (q2_ : Sl Bool)
 | p2 (n : T27) (q0_ : Bool) (q1_ : Int) (q2_ : Sl Bool)
 | p3 (n : T27) (q0_ : Bool) (q1_ : Int) (q2_ : Sl Bool)
 | p4 (n : T27) (t71_ : Int) (t72_ : Int) (q0_ : Bool) (q1_ : Int) (q2_ : Sl Bool)
noncomputable def G30 : St30 → Option (Bool × Int × Sl Bool) | .e n q0_ q1_ q2_ => (if q0_ = true then (F31 n >>= fun r_2 => (G30 (.p1 n r_2 q1_ q2_))) else (G30 (.p1 n false q1_ q2_))) | .p1 n q0_ q1_ q2_ => (if (!q0_) = true then (some (q0_, q1_, q2_)) else (if (n.Kind == 6) = true then (if (n.Group == (IntKind.wrap .i64 (q1_ + 1))) = true then (G30 (.p2 n (decide ((IntKind.wrap .i64 (q1_ + 1)) ≤ 99)) (IntKind.wrap .i64 (q1_ + 1)) q2_)) else (G30 (.p2 n false (IntKind.wrap .i64 (q1_ + 1)) q2_))) else (if (n.Kind == 7) = true then (if (decide (n.Group ≥ 1)) = true then (if (decide (n.Group ≤ 9)) = true then (if (decide (n.Group ≤ q1_)) = true then (ix (ls q2_) (IntKind.wrap .i64 (n.Group - 1)) >>= fun v_12 => (G30 (.p3 n v_12 q1_ q2_))) else (G30 (.p3 n false q1_ q2_))) else (G30 (.p3 n false q1_ q2_))) else (G30 (.p3 n false q1_ q2_))) else (G30 (.p3 n q0_ q1_ q2_))))) | .p2 n q0_ q1_ q2_ => (if ((ls q2_).length + (ls (some ([false] : List Bool))).length) * 1 ≤ 140737488355328 then (G30 (.p3 n q0_ q1_ (sapp q2_ (ls (some ([false] : List Bool)))))) else none) | .p3 n q0_ q1_ q2_ => (G30 (.p4 n ((ls n.Kids).length : Int) 0 q0_ q1_ q2_)) | .p4 n t71_ t72_ q0_ q1_ q2_ => (if (decide (t72_ < t71_)) = true then (if q0_ = true then (ix (ls n.Kids) t72_ >>= fun v_20 => (G30 (.e v_20 q0_ q1_ q2_) >>= fun r_22 => (G30 (.p4 n t71_ (IntKind.wrap .i64 (t72_ + 1)) r_22.1 r_22.2.1 r_22.2.2)))) else (G30 (.p4 n t71_ (IntKind.wrap .i64 (t72_ + 1)) q0_ q1_ q2_))) else (if q0_ = true then (if (n.Kind == 6) = true then (ix (ls q2_) (IntKind.wrap .i64 (n.Group - 1)) >>= fun v_27 => (some (q0_, q1_, (vset q2_ (IntKind.wrap .i64 (n.Group - 1)) true)))) else (some (q0_, q1_, q2_))) else (some (q0_, q1_, q2_)))) partial_fixpoint
def M30 (x : St30) (r : Bool × Int × Sl Bool) : Prop := match x with | .e n q0_ q1_ q2_ => ∀ (K : AV → Store → Prop) (Ls : List Asn) (iQ0 : Nat) (iQ1 : Nat) (iQ2 : Nat) (iW3 : Nat), (∀ st, SH st (pt iQ0 (.cells (cB r.1)) :: pt iQ1 (.cells (cI .i64 r.2.1)) :: bx45_r iQ2 r.2.2 :: pt iW3 (.cells [.fn 30 [.ptr iQ0 0, .ptr iQ1 0, .ptr iQ2 0, .ptr iW3 0]]) :: Ls) → K (AV.tup []) st) → ∀ (st : Store), SH st (pt iQ0 (.cells (cB q0_)) :: pt iQ1 (.cells (cI .i64 q1_)) :: bx45_r iQ2 q2_ :: pt iW3 (.cells [.fn 30 [.ptr iQ0 0, .ptr iQ1 0, .ptr iQ2 0, .ptr iW3 0]]) :: Ls) → XCall Try.prog noG 30 [.dptr (c27 n), .ptr iQ0 0, .ptr iQ1 0, .ptr iQ2 0, .ptr iW3 0] st K | .p1 n q0_ q1_ q2_ => ∀ (K : AV → Store → Prop) (Ls : List Asn) (iQ0 : Nat) (iQ1 : Nat) (iQ2 : Nat) (iW3 : Nat), (∀ st, SH st (pt iQ0 (.cells (cB r.1)) :: pt iQ1 (.cells (cI .i64 r.2.1)) :: bx45_r iQ2 r.2.2 :: pt iW3 (.cells [.fn 30 [.ptr iQ0 0, .ptr iQ1 0, .ptr iQ2 0, .ptr iW3 0]]) :: Ls) → K (AV.tup []) st) → ∀ (tm : Fr) (st : Store), Frm tm [(0, .dptr (c27 n)), (1, .ptr iQ0 0), (2, .ptr iQ1 0), (3, .ptr iQ2 0), (4, .ptr iW3 0)] → SH st (pt iQ0 (.cells (cB q0_)) :: pt iQ1 (.cells (cI .i64 q1_)) :: bx45_r iQ2 q2_ :: pt iW3 (.cells [.fn 30 [.ptr iQ0 0, .ptr iQ1 0, .ptr iQ2 0, .ptr iW3 0]]) :: Ls) → W (X30 K) [.code C30_3] tm st | .p2 n q0_ q1_ q2_ => ∀ (K : AV → Store → Prop) (Ls : List Asn) (iQ0 : Nat) (iQ1 : Nat) (iQ2 : Nat) (iW3 : Nat), (∀ st, SH st (pt iQ0 (.cells (cB r.1)) :: pt iQ1 (.cells (cI .i64 r.2.1)) :: bx45_r iQ2 r.2.2 :: pt iW3 (.cells [.fn 30 [.ptr iQ0 0, .ptr iQ1 0, .ptr iQ2 0, .ptr iW3 0]]) :: Ls) → K (AV.tup []) st) → ∀ (tm : Fr) (st : Store), Frm tm [(0, .dptr (c27 n)), (1, .ptr iQ0 0), (3, .ptr iQ2 0), (4, .ptr iW3 0)] → SH st (pt iQ0 (.cells (cB q0_)) :: pt iQ1 (.cells (cI .i64 q1_)) :: bx45_r iQ2 q2_ :: pt iW3 (.cells [.fn 30 [.ptr iQ0 0, .ptr iQ1 0, .ptr iQ2 0, .ptr iW3 0]]) :: Ls) → W (X30 K) [.code C30_20, .blk 0, .code C30_26] tm st | .p3 n q0_ q1_ q2_ => ∀ (K : AV → Store → Prop) (Ls : List Asn) (iQ0 : Nat) (iQ1 : Nat) (iQ2 : Nat) (iW3 : Nat), (∀ st, SH st (pt iQ0 (.cells (cB r.1)) :: pt iQ1 (.cells (cI .i64 r.2.1)) :: bx45_r iQ2 r.2.2 :: pt iW3 (.cells [.fn 30 [.ptr iQ0 0, .ptr iQ1 0, .ptr iQ2 0, .ptr iW3 0]]) :: Ls) → K (AV.tup []) st) → ∀ (tm : Fr) (st : Store), Frm tm [(0, .dptr (c27 n)), (1, .ptr iQ0 0), (3, .ptr iQ2 0), (4, .ptr iW3 0)] → SH st (pt iQ0 (.cells (cB q0_)) :: pt iQ1 (.cells (cI .i64 q1_)) :: bx45_r iQ2 q2_ :: pt iW3 (.cells [.fn 30 [.ptr iQ0 0, .ptr iQ1 0, .ptr iQ2 0, .ptr iW3 0]]) :: Ls) → W (X30 K) [.code C30_26] tm st | .p4 n t71_ t72_ q0_ q1_ q2_ => ∀ (K : AV → Store → Prop) (Ls : List Asn) (iQ0 : Nat) (iQ1 : Nat) (iQ2 : Nat) (iW3 : Nat), (∀ st, SH st (pt iQ0 (.cells (cB r.1)) :: pt iQ1 (.cells (cI .i64 r.2.1)) :: bx45_r iQ2 r.2.2 :: pt iW3 (.cells [.fn 30 [.ptr iQ0 0, .ptr iQ1 0, .ptr iQ2 0, .ptr iW3 0]]) :: Ls) → K (AV.tup []) st) → ∀ (tm : Fr) (st : Store), Frm tm [(0, .dptr (c27 n)), (1, .ptr iQ0 0), (3, .ptr iQ2 0), (4, .ptr iW3 0), (71, AV.int .i64 t71_), (72, AV.int .i64 t72_)] → SH st (pt iQ0 (.cells (cB q0_)) :: pt iQ1 (.cells (cI .i64 q1_)) :: bx45_r iQ2 q2_ :: pt iW3 (.cells [.fn 30 [.ptr iQ0 0, .ptr iQ1 0, .ptr iQ2 0, .ptr iW3 0]]) :: Ls) → W (X30 K) [.lp C30_31, .blk 1, .code C30_47] tm st
theorem w30 : ∀ (x : St30) (r : Bool × Int × Sl Bool), G30 x = some r → M30 x r := by
 refine G30.partial_correctness (M30) ?_
 intro g ih x r hF
 cases x with
 | e n q0_ q1_ q2_ =>
  dsimp only at hF
  intro K Ls iQ0 iQ1 iQ2 iW3 hK  st hs
  refine bS k30 rfl ?_
  refine rn 0 rfl ?_
  refine W.o (l1 rfl (hs.g 0 rfl) rfl) ?_
  refine rn 1 rfl ?_
  refine bi hF (fun c_1 hF => ?_) (fun c_1 hF => ?_)
  · refine wfx 8 rfl c_1 ?_
    obtain ⟨r_2, g_3, hF⟩ := bind_some hF
    refine rn 1 rfl ?_
    refine W.on rfl rfl ?_
    refine df (d31 n _ g_3) rfl ?_
    refine rn 1 rfl ?_
    refine sr hs 0 rfl rfl rfl (cs' := cB r_2) rfl rfl fun st hs => ?_
    refine rj 0 1 rfl ?_
    exact ih _ _ hF K Ls iQ0 iQ1 iQ2 iW3 hK _ _ ⟨rfl, rfl, rfl, rfl, rfl, trivial⟩ hs
  refine wfx 8 rfl c_1 ?_
  refine rn 3 rfl ?_
  refine sr hs 0 rfl rfl rfl (cs' := cB false) rfl rfl fun st hs => ?_
  refine rj 0 1 rfl ?_
  exact ih _ _ hF K Ls iQ0 iQ1 iQ2 iW3 hK _ _ ⟨rfl, rfl, rfl, rfl, rfl, trivial⟩ hs
 | p1 n q0_ q1_ q2_ =>
  dsimp only at hF
  intro K Ls iQ0 iQ1 iQ2 iW3 hK tm st hf hs
  refine en hf ?_
  refine rn 0 rfl ?_
  refine W.o (l1 rfl (hs.g 0 rfl) rfl) ?_
  refine rn 1 rfl ?_
  refine ci hF rfl (fun c_4 hF => ?_) (fun c_4 hF => ?_)
  · cases hF
    exact rS rl0 (hK _ hs) rfl
  refine rn 1 rfl ?_
  refine W.o (e_nilckD rfl) ?_
  refine W.o (e_faddrD rfl) ?_
  refine W.o (e_load1D rfl (DP.fld (DP.refl _) (lrg27_Kind n))) ?_
  refine rn 2 rfl ?_
  refine ci hF rfl (fun c_5 hF => ?_) (fun c_5 hF => ?_)
  · refine rn 0 rfl ?_
    refine W.o (l1 rfl (hs.g 1 rfl) rfl) ?_
    refine rn 1 rfl ?_
    refine sr hs 1 rfl rfl rfl (cs' := cI .i64 (IntKind.wrap .i64 (q1_ + 1))) rfl rfl fun st hs => ?_
    refine rn 0 rfl ?_
    have h0 := hs
    refine dr0 ?_
    refine dn 1 rfl ?_
    refine de rfl (e_nilckD rfl) ?_
    refine de rfl (e_faddrD rfl) ?_
    refine de rfl (e_load1D rfl (DP.fld (DP.refl _) (lrg27_Group n))) ?_
    refine de rfl (l1 rfl (h0.g 1 rfl) rfl) ?_
    refine dn 2 rfl ?_
    refine bi hF (fun c_6 hF => ?_) (fun c_6 hF => ?_)
    · refine dfx 28 rfl c_6 ?_
      refine don rfl rfl ?_
      refine de rfl (l1 rfl (h0.g 1 rfl) rfl) ?_
      refine dn 2 rfl ?_
      refine dz ?_
      refine sr hs 0 rfl rfl rfl (cs' := cB (decide ((IntKind.wrap .i64 (q1_ + 1)) ≤ 99))) rfl rfl fun st hs => ?_
      refine rj 0 1 rfl ?_
      exact ih _ _ hF K Ls iQ0 iQ1 iQ2 iW3 hK _ _ ⟨rfl, rfl, rfl, rfl, trivial⟩ hs
    refine dfx 28 rfl c_6 ?_
    refine dn 3 rfl ?_
    refine dz ?_
    refine sr hs 0 rfl rfl rfl (cs' := cB false) rfl rfl fun st hs => ?_
    refine rj 0 1 rfl ?_
    exact ih _ _ hF K Ls iQ0 iQ1 iQ2 iW3 hK _ _ ⟨rfl, rfl, rfl, rfl, trivial⟩ hs
  refine rn 2 rfl ?_
  refine ci hF rfl (fun c_7 hF => ?_) (fun c_7 hF => ?_)
  · have hs := (hs.p 4 [2, 0, 0, 0] rfl)
    obtain ⟨j_8, hs⟩ := SH.bx1o hs
    have h0 := hs
    refine dr0 ?_
    refine dn 1 rfl ?_
    refine de rfl (e_nilckD rfl) ?_
    refine de rfl (e_faddrD rfl) ?_
    refine de rfl (e_load1D rfl (DP.fld (DP.refl _) (lrg27_Group n))) ?_
    refine dn 2 rfl ?_
    refine bi hF (fun c_9 hF => ?_) (fun c_9 hF => ?_)
    · refine dfx 42 rfl c_9 ?_
      refine dn 1 rfl ?_
      refine don rfl rfl ?_
      refine de rfl (e_nilckD rfl) ?_
      refine don rfl rfl ?_
      refine de rfl (e_faddrD rfl) ?_
      refine don rfl rfl ?_
      refine de rfl (e_load1D rfl (DP.fld (DP.refl _) (lrg27_Group n))) ?_
      refine dn 3 rfl ?_
      refine bi hF (fun c_10 hF => ?_) (fun c_10 hF => ?_)
      · refine dfx 49 rfl c_10 ?_
        refine dn 1 rfl ?_
        refine don rfl rfl ?_
        refine de rfl (e_nilckD rfl) ?_
        refine don rfl rfl ?_
        refine de rfl (e_faddrD rfl) ?_
        refine don rfl rfl ?_
        refine de rfl (e_load1D rfl (DP.fld (DP.refl _) (lrg27_Group n))) ?_
        refine don rfl rfl ?_
        refine de rfl (l1 rfl (h0.g 3 rfl) rfl) ?_
        refine dn 3 rfl ?_
        refine bi hF (fun c_11 hF => ?_) (fun c_11 hF => ?_)
        · refine dfx 57 rfl c_11 ?_
          refine don rfl rfl ?_
          refine de rfl (l1 rfl (h0.g 0 rfl) rfl) ?_
          refine dn 1 rfl ?_
          refine don rfl rfl ?_
          refine de rfl (e_nilckD rfl) ?_
          refine don rfl rfl ?_
          refine de rfl (e_faddrD rfl) ?_
          refine don rfl rfl ?_
          refine de rfl (e_load1D rfl (DP.fld (DP.refl _) (lrg27_Group n))) ?_
          obtain ⟨v_12, g_13, hF⟩ := bind_some hF
          refine dn 1 rfl ?_
          refine don rfl rfl ?_
          refine de rfl (e_iaddrV h0 1 rfl rfl rfl g_13) ?_
          refine don rfl rfl ?_
          refine de rfl (e_load1 rfl (SH.gv h0 1 rfl g_13) (LR.cast (LR.comp (LR.whole _ _) (lrV_get cB_len g_13)) (by omega))) ?_
          refine dn 1 rfl ?_
          refine dz ?_
          refine sr hs 2 rfl rfl rfl (cs' := cB v_12) rfl rfl fun st hs => ?_
          refine rj 0 2 rfl ?_
          have hs : SH st (bx45_r iQ2 q2_ :: _) := SH.bx1c j_8 (hs.p 5 [0, 0, 0, 0, 0] rfl)
          exact ih _ _ hF K Ls iQ0 iQ1 iQ2 iW3 hK _ _ ⟨rfl, rfl, rfl, rfl, trivial⟩ (hs.p 4 [1, 1, 0, 0] rfl)
        refine dfx 57 rfl c_11 ?_
        refine dn 9 rfl ?_
        refine dz ?_
        refine sr hs 2 rfl rfl rfl (cs' := cB false) rfl rfl fun st hs => ?_
        refine rj 0 2 rfl ?_
        have hs : SH st (bx45_r iQ2 q2_ :: _) := SH.bx1c j_8 (hs.p 5 [0, 0, 0, 0, 0] rfl)
        exact ih _ _ hF K Ls iQ0 iQ1 iQ2 iW3 hK _ _ ⟨rfl, rfl, rfl, rfl, trivial⟩ (hs.p 4 [1, 1, 0, 0] rfl)
      refine dfx 49 rfl c_10 ?_
      refine dn 17 rfl ?_
      refine dz ?_
      refine sr hs 2 rfl rfl rfl (cs' := cB false) rfl rfl fun st hs => ?_
      refine rj 0 2 rfl ?_
      have hs : SH st (bx45_r iQ2 q2_ :: _) := SH.bx1c j_8 (hs.p 5 [0, 0, 0, 0, 0] rfl)
      exact ih _ _ hF K Ls iQ0 iQ1 iQ2 iW3 hK _ _ ⟨rfl, rfl, rfl, rfl, trivial⟩ (hs.p 4 [1, 1, 0, 0] rfl)
    refine dfx 42 rfl c_9 ?_
    refine dn 24 rfl ?_
    refine dz ?_
    refine sr hs 2 rfl rfl rfl (cs' := cB false) rfl rfl fun st hs => ?_
    refine rj 0 2 rfl ?_
    have hs : SH st (bx45_r iQ2 q2_ :: _) := SH.bx1c j_8 (hs.p 5 [0, 0, 0, 0, 0] rfl)
    exact ih _ _ hF K Ls iQ0 iQ1 iQ2 iW3 hK _ _ ⟨rfl, rfl, rfl, rfl, trivial⟩ (hs.p 4 [1, 1, 0, 0] rfl)
  refine rj 0 2 rfl ?_
  exact ih _ _ hF K Ls iQ0 iQ1 iQ2 iW3 hK _ _ ⟨rfl, rfl, rfl, rfl, trivial⟩ hs
 | p2 n q0_ q1_ q2_ =>
  dsimp only at hF
  intro K Ls iQ0 iQ1 iQ2 iW3 hK tm st hf hs
  refine en hf ?_
  have hs := (hs.p 4 [2, 0, 0, 0] rfl)
  obtain ⟨j_14, hs⟩ := SH.bx1o hs
  refine rn 0 rfl ?_
  refine W.o (l1 rfl (hs.g 0 rfl) rfl) ?_
  refine bs (f := AV.bool) ([false] : List Bool) hs rfl rfl rfl rfl fun st b_15 hs => ?_
  obtain ⟨g_16, hF⟩ := grd_some hF
  refine apV (f := AV.bool) (c := cB) (ys := ls (some ([false] : List Bool))) hs 2 rfl rfl (ae_rd (rd_W (o := (some ([false] : List Bool))) (id := b_15) rfl)) g_16 cB_len (fun _ => rfl) (fun _ => rfl) fun st b_17 hs => ?_
  refine so hs 1 rfl rfl rfl (rvV_c (es := 1) (o := sapp q2_ (ls (some ([false] : List Bool)))) (id := b_17)) rfl (cs' := [rvV 1 (sapp q2_ (ls (some ([false] : List Bool)))) b_17]) rfl rfl fun st hs => ?_
  refine rj 0 2 rfl ?_
  have hs : SH st (bx45_r iQ2 (sapp q2_ (ls (some ([false] : List Bool)))) :: _) := SH.bx1c b_17 (hs.p 6 [1, 1, 0, 0, 0, 0] rfl)
  exact ih _ _ hF K Ls iQ0 iQ1 iQ2 iW3 hK _ _ ⟨rfl, rfl, rfl, rfl, trivial⟩ (hs.p 5 [2, 2, 0, 1] rfl)
 | p3 n q0_ q1_ q2_ =>
  dsimp only at hF
  intro K Ls iQ0 iQ1 iQ2 iW3 hK tm st hf hs
  refine en hf ?_
  refine rn 1 rfl ?_
  refine W.o (e_nilckD rfl) ?_
  refine W.o (e_faddrD rfl) ?_
  refine W.o (e_load1D rfl (DP.fld (DP.refl _) (lrg27_Kids n))) ?_
  refine W.o (e_len (rd_V rfl)) ?_
  refine rn 1 rfl ?_
  exact ih _ _ hF K Ls iQ0 iQ1 iQ2 iW3 hK _ _ ⟨rfl, rfl, rfl, rfl, rfl, rfl, trivial⟩ hs
 | p4 n t71_ t72_ q0_ q1_ q2_ =>
  dsimp only at hF
  intro K Ls iQ0 iQ1 iQ2 iW3 hK tm st hf hs
  refine en hf ?_
  refine lp ?_
  refine rn 1 rfl ?_
  refine ci hF rfl (fun c_18 hF => ?_) (fun c_18 hF => ?_)
  · refine rn 2 rfl ?_
    refine W.o (l1 rfl (hs.g 0 rfl) rfl) ?_
    refine rn 0 rfl ?_
    refine ci hF rfl (fun c_19 hF => ?_) (fun c_19 hF => ?_)
    · have h0 := hs
      refine dr0 ?_
      refine de rfl (l1 rfl (h0.g 3 rfl) rfl) ?_
      refine dn 1 rfl ?_
      refine de rfl (e_nilckD rfl) ?_
      refine de rfl (e_faddrD rfl) ?_
      refine de rfl (e_load1D rfl (DP.fld (DP.refl _) (lrg27_Kids n))) ?_
      obtain ⟨v_20, g_21, hF⟩ := bind_some hF
      refine dn 1 rfl ?_
      refine de rfl (e_iaddrL (rd_V rfl) rfl g_21) ?_
      refine dz ?_
      obtain ⟨r_22, g_23, hF⟩ := bind_some hF
      refine cv rfl (by kernel_rfl) (ale rfl) (ih (.e v_20 q0_ q1_ q2_) _ g_23 _ _ iQ0 iQ1 iQ2 iW3 (fun st hs => ?_) _ hs)
      refine rn 2 rfl ?_
      exact ih _ _ hF K Ls iQ0 iQ1 iQ2 iW3 hK _ _ ⟨rfl, rfl, rfl, rfl, rfl, rfl, trivial⟩ hs
    refine rn 2 rfl ?_
    exact ih _ _ hF K Ls iQ0 iQ1 iQ2 iW3 hK _ _ ⟨rfl, rfl, rfl, rfl, rfl, rfl, trivial⟩ hs
  refine rn 0 rfl ?_
  refine W.o (l1 rfl (hs.g 0 rfl) rfl) ?_
  refine rn 1 rfl ?_
  refine bi hF (fun c_24 hF => ?_) (fun c_24 hF => ?_)
  · refine wfx 86 rfl c_24 ?_
    refine rn 1 rfl ?_
    refine W.on rfl rfl ?_
    refine W.o (e_nilckD rfl) ?_
    refine W.on rfl rfl ?_
    refine W.o (e_faddrD rfl) ?_
    refine W.on rfl rfl ?_
    refine W.o (e_load1D rfl (DP.fld (DP.refl _) (lrg27_Kind n))) ?_
    refine rn 2 rfl ?_
    refine ci hF rfl (fun c_25 hF => ?_) (fun c_25 hF => ?_)
    · have hs := (hs.p 4 [2, 0, 0, 0] rfl)
      obtain ⟨j_26, hs⟩ := SH.bx1o hs
      have h0 := hs
      refine dr0 ?_
      refine de rfl (l1 rfl (h0.g 0 rfl) rfl) ?_
      refine dn 1 rfl ?_
      refine de rfl (e_nilckD rfl) ?_
      refine de rfl (e_faddrD rfl) ?_
      refine de rfl (e_load1D rfl (DP.fld (DP.refl _) (lrg27_Group n))) ?_
      obtain ⟨v_27, g_28, hF⟩ := bind_some hF
      refine dn 1 rfl ?_
      refine de rfl (e_iaddrV h0 1 rfl rfl rfl g_28) ?_
      refine dz ?_
      refine slv hs 1 rfl rfl g_28 rfl (LR.cast (LR.comp (LR.whole _ _) (lrV_set cB_len g_28 true)) (by omega)) (cB_len _) rfl (cB_len _) (cB_one _) rfl fun st hs => ?_
      have hs := hs.cong 0 rfl (cs' := [rvV 1 (vset q2_ (IntKind.wrap .i64 (n.Group - 1)) true) j_26]) (by simp only [rvV_vset]) rfl
      refine rn 0 rfl ?_
      have hs : SH st (bx45_r iQ2 (vset q2_ (IntKind.wrap .i64 (n.Group - 1)) true) :: _) := SH.bx1c j_26 (hs.p 5 [0, 0, 0, 0, 0] rfl)
      cases hF
      exact eS rl0 (hK _ (hs.p 4 [1, 1, 0, 0] rfl)) rfl
    refine rn 0 rfl ?_
    cases hF
    exact eS rl0 (hK _ hs) rfl
  refine wfx 86 rfl c_24 ?_
  refine rn 6 rfl ?_
  refine cf rfl rfl ?_
  refine rn 0 rfl ?_
  cases hF
  exact eS rl0 (hK _ hs) rfl
noncomputable def F30 (n : T27) (q0_ : Bool) (q1_ : Int) (q2_ : Sl Bool) : Option (Bool × Int × Sl Bool) := G30 (.e n q0_ q1_ q2_)
theorem d30 (n : T27) (q0_ : Bool) (q1_ : Int) (q2_ : Sl Bool) (r : Bool × Int × Sl Bool) (hF : F30 n q0_ q1_ q2_ = some r) : ∀ (K : AV → Store → Prop) (Ls : List Asn) (iQ0 : Nat) (iQ1 : Nat) (iQ2 : Nat) (iW3 : Nat), (∀ st, SH st (pt iQ0 (.cells (cB r.1)) :: pt iQ1 (.cells (cI .i64 r.2.1)) :: bx45_r iQ2 r.2.2 :: pt iW3 (.cells [.fn 30 [.ptr iQ0 0, .ptr iQ1 0, .ptr iQ2 0, .ptr iW3 0]]) :: Ls) → K (AV.tup []) st) → ∀ (st : Store), SH st (pt iQ0 (.cells (cB q0_)) :: pt iQ1 (.cells (cI .i64 q1_)) :: bx45_r iQ2 q2_ :: pt iW3 (.cells [.fn 30 [.ptr iQ0 0, .ptr iQ1 0, .ptr iQ2 0, .ptr iW3 0]]) :: Ls) → XCall Try.prog noG 30 [.dptr (c27 n), .ptr iQ0 0, .ptr iQ1 0, .ptr iQ2 0, .ptr iW3 0] st K := by
 exact w30 (.e n q0_ q1_ q2_) r hF
end Go.Proofs.Ytjbafmnocopofaa
end
section
set_option maxRecDepth 4000
set_option maxHeartbeats 4000000
namespace Go.Proofs.Ytjbafmnocopofaa
open Go AW
attribute [local irreducible] W WD SH XS XLoop DFun XCall XYield
def C12_10 : ACode := .skip
def C12_11 : ACode := .block 1 (.s (.ops [q 10 (.load1 3), q 11 (.binI .add 10 (ki 1)), q0 (.store 1 3 11)]) (.s (.ops [q 12 (.load1 3), q 13 (.binI .gtr 12 (ki 8192))]) (.cond 13 (.s (.ops [q0 (.store 1 2 (ki 3))]) .ret) .skip)))
def C12_9 : ACode := .range 8 [9] C12_10 C12_11
def C12_36 : ACode := .cond 18 (.s (.ops [q0 (.store 1 2 (ki 90))]) .ret) .skip
def C12_21 : ACode := .s (.ops [q 4 (.alloc [(.int .i64 0)]), q0 (.store 1 4 (ki 0))]) (.s (.ops [q 5 (.alloc [.nils])]) (.s (.ops [q 6 (.alloc [(.bool false)]), q0 (.store 1 6 (.c (.bool true)))]) (.s (.ops [q 7 (.alloc [.nilfn])]) (.s (.ops [q 14 (.mkfn 30 [6, 4, 5, 7]), q0 (.store 1 7 14)]) (.s (.ops [q 15 (.load1 7), qf 16 15 [1]]) (.s (.s (.ops [q 17 (.load1 6), q 18 (.un .not 17)]) C12_36) (.s (.ops [q0 (.store 1 2 (ki 0))]) .ret)))))))
def C12_1 : ACode := .s (.ops [q 1 (.boxD 9 0), q 2 (.alloc [(.int .i64 0)])]) (.s (.ops [q 3 (.alloc [(.int .i64 0)]), q0 (.store 1 3 (ki 0))]) (.s (.s (.ops [qc 8 29 [1]]) (.block 0 C12_9)) C12_21))
def R12 : List RA := [(.cell1 2)]
theorem k12 : compF Try.prog (muL [1]) 12 = some ⟨19, C12_1, R12⟩ := by kernel_rfl
noncomputable abbrev X12 (r : Int) : Cx := cD Try.prog noG 19 R12 (AV.int .i64 r) [1]
noncomputable def B12_1 (n : T27) (t8_ : T27) (x : T27) (zz : Int × Int × Nat) : Option (Bool × (Int × Int × Nat)) := if zz.2.2 = 0 then (if (decide ((IntKind.wrap .i64 (zz.2.1 + 1)) > 8192)) = true then (some (false, (3, IntKind.wrap .i64 (zz.2.1 + 1), 1))) else (some (true, (zz.1, IntKind.wrap .i64 (zz.2.1 + 1), 0))))
else none
theorem b12_1 (n : T27) (t8_ : T27) (x : T27) (zz : Int × Int × Nat) (r : Bool × (Int × Int × Nat)) (hF : B12_1 n t8_ x zz = some r) (K : AV → Store → Prop) (Ls : List Asn) (iL : Nat) (ca cb : Code) (tm0 : Fr) (io0 : Nat) (io1 : Nat) (q1 : compC Try.prog 19 (rnd (muL [1])) ca = some C12_10) (q2 : compC Try.prog 19 (rnd (muL [1])) cb = some C12_11) (hf : Frm tm0 [(1, .dptr (c27 n)), (2, .ptr io0 0), (3, .ptr io1 0), (8, .fn 40 [.dptr [.dptr (c27 t8_)]])]) (hK : ∀ st, SH st (bun [pt iL (.loop 19 [9] ca cb tm0 (lsW r.2.2.2) (ljW [.ret] r.2.2.2)), pt io0 (.cells (cI .i64 r.2.1)), pt io1 (.cells (cI .i64 r.2.2.1))] :: Ls) → K (.bool r.1) st) (st : Store) (hs : SH st (bun [pt iL (.loop 19 [9] ca cb tm0 (lsW zz.2.2) (ljW [.ret] zz.2.2)), pt io0 (.cells (cI .i64 zz.1)), pt io1 (.cells (cI .i64 zz.2.1))] :: Ls)) : XYield Try.prog noG iL [.dptr (c27 x)] st K := by
 unfold B12_1 at hF
 obtain ⟨c_, hF⟩ := grd_some hF
 replace hs : SH st ([pt iL (.loop 19 [9] ca cb tm0 (lsW zz.2.2) (ljW [.ret] zz.2.2)), pt io0 (.cells (cI .i64 zz.1)), pt io1 (.cells (cI .i64 zz.2.1))] ++ Ls) := SH.unbun hs
 rw [c_] at hs
 replace hs : SH st (pt iL (.loop 19 [9] ca cb tm0 .ready none) :: pt io0 (.cells (cI .i64 zz.1)) :: pt io1 (.cells (cI .i64 zz.2.1)) :: Ls) := hs
 replace hK : (∀ st, SH st (pt iL (.loop 19 [9] ca cb tm0 (lsW r.2.2.2) (ljW [.ret] r.2.2.2)) :: pt io0 (.cells (cI .i64 r.2.1)) :: pt io1 (.cells (cI .i64 r.2.2.1)) :: Ls) → K (.bool r.1) st) := fun st hs => hK st (SH.bun hs)
 refine bR' (mu := [1]) q1 q2 hs rfl rfl (fun _ _ => trivial) ?_
 rw [putL1 hf]
 refine rn 0 rfl ?_
 refine rdW hs fun st hs => ?_
 refine rn 0 rfl ?_
 refine W.o (l1 rfl (hs.g 2 rfl) rfl) ?_
 refine rn 1 rfl ?_
 refine sr hs 2 rfl rfl rfl (cs' := cI .i64 (IntKind.wrap .i64 (zz.2.1 + 1))) rfl rfl fun st hs => ?_
 refine rn 0 rfl ?_
 refine W.o (l1 rfl (hs.g 2 rfl) rfl) ?_
 refine rn 1 rfl ?_
 refine ci hF rfl (fun c_1 hF => ?_) (fun c_1 hF => ?_)
 · refine rn 0 rfl ?_
   refine sr hs 1 rfl rfl rfl (cs' := cI .i64 3) rfl rfl fun st hs => ?_
   refine rj 0 1 rfl ?_
   cases hF
   exact rdR hs (fun st hs => hK st hs)
 refine rn 0 rfl ?_
 cases hF
 exact rdN hs (fun st hs => hK st hs)
inductive St12 where
 | p1 (n : T27) (t8_ : T27) (t2_ : Int) (count : Int)
noncomputable def G12 : St12 → Option Int | .p1 n t8_ t2_ count => (F40 (B12_1 n t8_) t8_ (t2_, count, 0) >>= fun r_5 => (if r_5.2.2 = 0 then (F30 n true 0 (none : Sl Bool) >>= fun r_12 => (if (!r_12.1) = true then (some 90) else (some 0))) else (if r_5.2.2 = 1 then (some r_5.1) else none)))
def M12 (x : St12) (r : Int) : Prop := match x with | .p1 n t8_ t2_ count => ∀ (tm : Fr) (st : Store) (io0 : Nat) (io1 : Nat), Frm tm [(1, .dptr (c27 n)), (2, .ptr io0 0), (3, .ptr io1 0), (8, .fn 40 [.dptr [.dptr (c27 t8_)]])] → SH st [pt io0 (.cells (cI .i64 t2_)), pt io1 (.cells (cI .i64 count))] → W (X12 r) [.code C12_9, .blk 0, .code C12_21] tm st
theorem w12 : ∀ (x : St12) (r : Int), G12 x = some r → M12 x r := by
 intro x r hF
 cases x with
 | p1 n t8_ t2_ count =>
  dsimp only [G12] at hF
  intro tm st io0 io1 hf hs
  obtain ⟨r_5, g_6, hF⟩ := bind_some hF
  refine rg (N := 19) (fr := []) rfl hs hf.2.2.2.1 (by kernel_rfl) fun ca cb st iL q1 q2 hs => ?_
  refine d40 (σ := Int × Int × Nat) (H := fun zz => bun [pt iL (.loop 19 [9] ca cb tm (lsW zz.2.2) (ljW [.ret] zz.2.2)), pt io0 (.cells (cI .i64 zz.1)), pt io1 (.cells (cI .i64 zz.2.1))]) (Y := B12_1 n t8_) iL (fun x zz r hB K L st hs hK => b12_1 n t8_ x zz r hB K L iL ca cb tm io0 io1 q1 q2 hf hK st hs) t8_ (t2_, count, 0) _ g_6 _ _ (fun st hs => ?_) _ (SH.bun hs)
  replace hs : SH st ([pt iL (.loop 19 [9] ca cb tm (lsW r_5.2.2) (ljW [.ret] r_5.2.2)), pt io0 (.cells (cI .i64 r_5.1)), pt io1 (.cells (cI .i64 r_5.2.1))] ++ _) := SH.unbun hs
  refine ni hF (fun c_ hF => ?_) (fun c_ hF => ?_)
  · rw [c_] at hs
    refine rgN hs (by decide) fun st hs => ?_
    refine en hf ?_
    refine rn 0 rfl ?_
    refine al hs (cs := cI .i64 0) rfl fun st b_7 hs => ?_
    refine sr hs 0 rfl rfl rfl (cs' := cI .i64 0) rfl rfl fun st hs => ?_
    have hs := hs.rvNil (α := Bool) cB
    refine rn 0 rfl ?_
    refine al hs (cs := [rvV 1 (none : Sl Bool) 0]) rfl fun st b_8 hs => ?_
    refine rn 0 rfl ?_
    refine al hs (cs := cB false) rfl fun st b_10 hs => ?_
    refine sr hs 0 rfl rfl rfl (cs' := cB true) rfl rfl fun st hs => ?_
    refine rn 0 rfl ?_
    refine al hs (cs := [.nilfn]) rfl fun st b_11 hs => ?_
    refine rn 1 rfl ?_
    refine sr hs 0 rfl rfl rfl (cs' := [.fn 30 [.ptr b_10 0, .ptr b_7 0, .ptr b_8 0, .ptr b_11 0]]) rfl rfl fun st hs => ?_
    refine rn 0 rfl ?_
    refine W.o (l1 rfl (hs.g 0 rfl) rfl) ?_
    have hs : SH st (bx45_r b_8 (none : Sl Bool) :: _) := SH.bx1c 0 (hs.p 7 [2, 2, 0, 0, 0, 0, 0] rfl)
    obtain ⟨r_12, g_13, hF⟩ := bind_some hF
    refine cv rfl (by kernel_rfl) (ale rfl) (d30 _ _ _ _ _ g_13 _ _ b_10 b_7 b_8 b_11 (fun st hs => ?_) _ (hs.p 6 [2, 2, 0, 0, 0, 0] rfl))
    refine rn 0 rfl ?_
    refine W.o (l1 rfl (hs.g 0 rfl) rfl) ?_
    refine rn 1 rfl ?_
    refine ci hF rfl (fun c_14 hF => ?_) (fun c_14 hF => ?_)
    · refine rn 0 rfl ?_
      refine sr hs 4 rfl rfl rfl (cs' := cI .i64 90) rfl rfl fun st hs => ?_
      refine rn 0 rfl ?_
      cases hF
      exact rD (rl_cell1 rfl (hs.g 4 rfl) (LR.whole _ _) rl0) rfl
    refine rn 0 rfl ?_
    refine sr hs 4 rfl rfl rfl (cs' := cI .i64 0) rfl rfl fun st hs => ?_
    refine rn 0 rfl ?_
    cases hF
    exact rD (rl_cell1 rfl (hs.g 4 rfl) (LR.whole _ _) rl0) rfl
  refine ni hF (fun c_ hF => ?_) (fun c_ hF => ?_)
  · rw [c_] at hs
    refine rgR (fun _ _ => rfl) hs (by decide) fun st hs => ?_
    refine en hf ?_
    cases hF
    exact eD (rl_cell1 rfl (hs.g 0 rfl) (LR.whole _ _) rl0) rfl
  cases hF
noncomputable def F12 (n : T27) : Option Int := (F29 n >>= fun r_3 => (G12 (.p1 n r_3 0 0)))
theorem d12 (n : T27) (r : Int) (hF : F12 n = some r) : DFun Try.prog noG 12 [v27 n] (AV.int .i64 r) := by
 unfold F12 at hF
 refine bD k12 rfl ?_
 have hs : SH [] [] := SH.nil
 generalize ([] : Store) = st at hs ⊢
 refine rn 0 rfl ?_
 refine W.o (e_boxD (cs := c27 n) rfl (by rw [c27_len]; rfl) (c27_one _)) ?_
 refine al hs (cs := cI .i64 0) rfl fun st b_1 hs => ?_
 refine rn 0 rfl ?_
 refine al hs (cs := cI .i64 0) rfl fun st b_2 hs => ?_
 refine sr hs 0 rfl rfl rfl (cs' := cI .i64 0) rfl rfl fun st hs => ?_
 obtain ⟨r_3, g_4, hF⟩ := bind_some hF
 refine rn 0 rfl ?_
 refine df (d29 n _ g_4) rfl ?_
 refine rj 0 2 rfl ?_
 exact w12 (.p1 n r_3 0 0) _ hF _ _ b_1 b_2 ⟨rfl, rfl, rfl, rfl, trivial⟩ (hs.p 2 [1, 0] rfl)
def C27_1 : ACode := .s (.ops [q 3 (.boxD 9 1), q 4 (.mv (ki 0))]) (.s (.draw [] 0 1 [q 5 (.mv 0), q 6 (.mv 0), q 7 (.nilck 6), q 8 (.faddr 0 7), q 9 (.load1 8), q 10 (.loadN 9 3), q 11 (.bslice 9 1 true [(.int .u8 0), (.int .u64 0), (.int .u64 0), (.int .u64 0), (.int .u64 0), (.int .i64 0), (.int .i64 0), (.int .i64 0), (.int .i64 0)] [(0, (9, 10))] false)] [q 12 (.appR 9 72 9 11), q 13 (.nilck 5), q 14 (.faddr 0 13), q0 (.store 1 14 12)]) (.s (.ops [q 15 (.mv 0), q 16 (.nilck 15), q 17 (.faddr 0 16), q 18 (.load1 17), q 19 (.len 18), q 20 (.binI .sub 19 (ki 1)), q 4 (.mv 20)]) .ret))
def R27 : List RA := [(.tmp 4)]
theorem k27 : compF Try.prog (muL [3, 12]) 27 = some ⟨21, C27_1, R27⟩ := by kernel_rfl
noncomputable def F27 (c : T65) (x_ : T52) : Option (Int × T65) := (if ((ls c.code).length + (ls (some ([x_] : List T52))).length) * 72 ≤ 140737488355328 then (some (IntKind.wrap .i64 (((ls (sapp c.code (ls (some ([x_] : List T52))))).length : Int) - 1), ({ c with code := sapp c.code (ls (some ([x_] : List T52))) } : T65))) else none)
theorem d27 (c : T65) (x_ : T52) (r : Int × T65) (hF : F27 c x_ = some r) : ∀ (K : AV → Store → Prop) (Ls : List Asn) (iP0 : Nat), (∀ st, SH st (bx65_0r iP0 r.2 :: Ls) → K (AV.int .i64 r.1) st) → ∀ (st : Store), SH st (bx65_0r iP0 c :: Ls) → XCall Try.prog noG 27 [.ptr iP0 0, v52 x_] st K := by
 unfold F27 at hF
 intro K Ls iP0 hK  st hs
 refine bS k27 rfl ?_
 refine rn 0 rfl ?_
 refine W.o (e_boxD (cs := c52 x_) rfl rfl rfl) ?_
 obtain ⟨j_1, hs⟩ := SH.bx1o hs
 refine rn 1 rfl ?_
 refine drn hs fun s_2 st h0 hs => ?_
 refine dn 2 rfl ?_
 refine de rfl (e_nilck rfl (h0.g 0 rfl)) ?_
 refine de rfl (e_faddr rfl (h0.g 0 rfl)) ?_
 refine de rfl (l1 rfl (h0.g 0 rfl) rfl) ?_
 refine de rfl (lND (s := c52 x_) rfl rfl rfl) ?_
 refine dbs (f := v52) ([x_] : List T52) hs 0 rfl rfl rfl rfl rfl rfl fun st hs => ?_
 refine dz ?_
 obtain ⟨g_5, hF⟩ := grd_some hF
 refine apV (f := v52) (c := c52) (ys := ls (some ([x_] : List T52))) hs 2 rfl rfl (ae_rd (rd_W (o := (some ([x_] : List T52))) (id := (List.length s_2 + 0)) rfl)) g_5 c52_len (fun _ => rfl) (fun _ => rfl) fun st b_6 hs => ?_
 refine W.o (e_nilck rfl (hs.g 1 rfl)) ?_
 refine W.o (e_faddr rfl (hs.g 1 rfl)) ?_
 refine so hs 1 rfl rfl rfl (rvV_c (es := 9) (o := sapp c.code (ls (some ([x_] : List T52)))) (id := b_6)) rfl (cs' := [rvV 9 (sapp c.code (ls (some ([x_] : List T52)))) b_6] ++ ((cI .i64) (c.slots) ++ ((cI .i64) (c.free)))) rfl rfl fun st hs => ?_
 refine rn 1 rfl ?_
 refine W.o (e_nilck rfl (hs.g 1 rfl)) ?_
 refine W.o (e_faddr rfl (hs.g 1 rfl)) ?_
 refine W.o (l1 rfl (hs.g 1 rfl) rfl) ?_
 refine W.o (e_lenV hs 2 rfl rfl) ?_
 refine rn 2 rfl ?_
 have hs : SH st (bx65_0r iP0 ({ c with code := sapp c.code (ls (some ([x_] : List T52))) } : T65) :: _) := SH.bx1c b_6 (hs.p 3 [1, 1, 0] rfl)
 cases hF
 exact rS (rlt rl0) (hK _ (hs.p 2 [0] rfl)) rfl
def C58_1 : ACode := .s (.ops [q 4 (.mv (.c (.bool false)))]) (.s (.s (.ops [q 5 (.mv 0), q 6 (.nilck 5), q 7 (.faddr 0 6), q 8 (.load1 7), q 9 (.mv 1), q 10 (.iaddrL 1 8 9), q 11 (.load1 10)]) (.cond 11 (.s (.ops [q 4 (.mv (.c (.bool false)))]) .ret) .skip)) (.s (.ops [q 12 (.mv 0), q 13 (.nilck 12), q 14 (.faddr 0 13), q 15 (.load1 14), q 16 (.mv 1), q 17 (.iaddrL 1 15 16), q0 (.store 1 17 (.c (.bool true)))]) (.s (.ops [q 18 (.mv 0), q 19 (.mv 0), q 20 (.nilck 19), q 21 (.faddr 1 20), q 22 (.load1 21), q 23 (.mv 1), q 24 (.bslice 1 1 false [(.int .i64 0)] [(0, (1, 23))] false), q 25 (.app 1 8 22 24), q 26 (.nilck 18), q 27 (.faddr 1 26), q0 (.store 1 27 25)]) (.s (.ops [q 4 (.mv (.c (.bool true)))]) .ret))))
def R58 : List RA := [(.tmp 4)]
theorem k58 : compF Try.prog (muL []) 58 = some ⟨28, C58_1, R58⟩ := by kernel_rfl
noncomputable def F58 (s : T92) (i : Int) : Option (Bool × T92) := (ix (ls s.in_) i >>= fun v_3 => (if v_3 = true then (some (false, s)) else (ix (ls s.in_) i >>= fun v_6 => (if ((ls s.list).length + (ls (some ([i] : List Int))).length) * 8 ≤ 140737488355328 then (some (true, ({ s with in_ := (vset s.in_ i true), list := sapp s.list (ls (some ([i] : List Int))) } : T92))) else none))))
theorem d58 (s : T92) (i : Int) (r : Bool × T92) (hF : F58 s i = some r) : ∀ (K : AV → Store → Prop) (Ls : List Asn) (iP0 : Nat), (∀ st, SH st (bx92_0r1o iP0 r.2 :: Ls) → K (AV.bool r.1) st) → ∀ (st : Store), SH st (bx92_0r1o iP0 s :: Ls) → XCall Try.prog noG 58 [.ptr iP0 0, AV.int .i64 i] st K := by
 unfold F58 at hF
 intro K Ls iP0 hK  st hs
 refine bS k58 rfl ?_
 obtain ⟨j_1, j_2, hs⟩ := SH.bx2o hs
 refine rn 2 rfl ?_
 refine W.o (e_nilck rfl (hs.g 0 rfl)) ?_
 refine W.o (e_faddr rfl (hs.g 0 rfl)) ?_
 refine W.o (l1 rfl (hs.g 0 rfl) rfl) ?_
 obtain ⟨v_3, g_4, hF⟩ := bind_some hF
 refine rn 1 rfl ?_
 refine W.o (e_iaddrV hs 1 rfl rfl rfl g_4) ?_
 refine W.o (e_load1 rfl (SH.gv hs 1 rfl g_4) (LR.cast (LR.comp (LR.whole _ _) (lrV_get cB_len g_4)) (by omega))) ?_
 refine rn 0 rfl ?_
 refine ci hF rfl (fun c_5 hF => ?_) (fun c_5 hF => ?_)
 · refine rn 1 rfl ?_
   have hs : SH st (bx92_0r1o iP0 s :: _) := SH.bx2c j_1 j_2 (hs.p 3 [0, 0, 0] rfl)
   cases hF
   exact rS (rlt rl0) (hK _ hs) rfl
 refine rn 1 rfl ?_
 refine W.o (e_nilck rfl (hs.g 0 rfl)) ?_
 refine W.o (e_faddr rfl (hs.g 0 rfl)) ?_
 refine W.o (l1 rfl (hs.g 0 rfl) rfl) ?_
 obtain ⟨v_6, g_7, hF⟩ := bind_some hF
 refine rn 1 rfl ?_
 refine W.o (e_iaddrV hs 1 rfl rfl rfl g_7) ?_
 refine slv hs 1 rfl rfl g_7 rfl (LR.cast (LR.comp (LR.whole _ _) (lrV_set cB_len g_7 true)) (by omega)) (cB_len _) rfl (cB_len _) (cB_one _) rfl fun st hs => ?_
 have hs := hs.cong 0 rfl (cs' := [rvV 1 (vset s.in_ i true) j_1] ++ ([ownV 1 (AV.int .i64) s.list j_2])) (by simp only [rvV_vset]) rfl
 refine rn 2 rfl ?_
 refine W.o (e_nilck rfl (hs.g 0 rfl)) ?_
 refine W.o (e_faddr rfl (hs.g 0 rfl)) ?_
 refine W.o (l1 rfl (hs.g 0 rfl) rfl) ?_
 refine rn 1 rfl ?_
 refine bs (f := AV.int .i64) ([i] : List Int) hs rfl rfl rfl rfl fun st b_8 hs => ?_
 obtain ⟨g_9, hF⟩ := grd_some hF
 refine ap (ys := ls (some ([i] : List Int))) hs 3 rfl rfl (ae_rd (rd_W (o := (some ([i] : List Int))) (id := b_8) rfl)) g_9 (fun _ => rfl) fun st b_10 hs => ?_
 refine W.o (e_nilck rfl (hs.g 1 rfl)) ?_
 refine W.o (e_faddr rfl (hs.g 1 rfl)) ?_
 refine so hs 1 rfl rfl rfl ownV_c rfl (cs' := [rvV 1 (vset s.in_ i true) j_1] ++ ([ownV 1 (AV.int .i64) (sapp s.list (ls (some ([i] : List Int)))) b_10])) rfl rfl fun st hs => ?_
 refine rn 1 rfl ?_
 have hs : SH st (bx92_0r1o iP0 ({ s with in_ := (vset s.in_ i true), list := sapp s.list (ls (some ([i] : List Int))) } : T92) :: _) := SH.bx2c j_1 b_10 (hs.p 4 [1, 1, 1, 0] rfl)
 cases hF
 exact rS (rlt rl0) (hK _ (hs.p 2 [0] rfl)) rfl
def C9_1 : ACode := .s (.ops [q 1 (.boxD 9 0), q 2 (.mv (ki 0)), q 3 (.mv (ki 0))]) (.s (.s (.ops [q 6 (.loadN 9 1), qc 7 12 [6], q 4 (.mv 7)]) (.s (.ops [q 8 (.mv 4), q 9 (.binI .neq 8 (ki 0))]) (.cond 9 (.s (.ops [q 10 (.mv 4), q 2 (.mv (ki 0)), q 3 (.mv 10)]) .ret) .skip))) (.s (.s (.ops [q 11 (.loadN 9 1), qc 12 25 [11], q 5 (.mv 12)]) (.s (.ops [q 13 (.mv 5), q 14 (.binI .lss 13 (ki 16384))]) (.cond 14 (.s (.ops [q 15 (.mv 5), q 16 (.binI .add 15 (ki 1)), q 2 (.mv 16), q 3 (.mv (ki 0))]) .ret) .skip))) (.s (.ops [q 2 (.mv (ki 0)), q 3 (.mv (ki 3))]) .ret)))
def R9 : List RA := [(.tmp 2), (.tmp 3)]
theorem k9 : compF Try.prog (muL [1]) 9 = some ⟨17, C9_1, R9⟩ := by kernel_rfl
noncomputable def F9 (n : T27) : Option (Int × Int) := (F12 n >>= fun r_1 => (if (r_1 != 0) = true then (some (0, r_1)) else (F25 n >>= fun r_4 => (if (decide (r_4 < 16384)) = true then (some (IntKind.wrap .i64 (r_4 + 1), 0)) else (some (0, 3))))))
theorem d9 (n : T27) (r : Int × Int) (hF : F9 n = some r) : DFun Try.prog noG 9 [v27 n] (AV.tup [AV.int .i64 r.1, AV.int .i64 r.2]) := by
 unfold F9 at hF
 refine bD k9 rfl ?_
 have hs : SH [] [] := SH.nil
 generalize ([] : Store) = st at hs ⊢
 refine rn 0 rfl ?_
 refine W.o (e_boxD (cs := c27 n) rfl (by rw [c27_len]; rfl) (c27_one _)) ?_
 refine rn 2 rfl ?_
 refine W.o (e_loadND rfl (DP.refl _) (c27_len _)) ?_
 obtain ⟨r_1, g_2, hF⟩ := bind_some hF
 refine df (d12 n _ g_2) rfl ?_
 refine rn 3 rfl ?_
 refine ci hF rfl (fun c_3 hF => ?_) (fun c_3 hF => ?_)
 · refine rn 3 rfl ?_
   cases hF
   exact rD (rlt (rlt rl0)) rfl
 refine rn 0 rfl ?_
 refine W.o (e_loadND rfl (DP.refl _) (c27_len _)) ?_
 obtain ⟨r_4, g_5, hF⟩ := bind_some hF
 refine df (d25 n _ g_5) rfl ?_
 refine rn 3 rfl ?_
 refine ci hF rfl (fun c_6 hF => ?_) (fun c_6 hF => ?_)
 · refine rn 4 rfl ?_
   cases hF
   exact rD (rlt (rlt rl0)) rfl
 refine rn 2 rfl ?_
 cases hF
 exact rD (rlt (rlt rl0)) rfl
def C39_1 : ACode := .s (.ops [q 0 (.alloc [.nilfn, .nilfn, .nilfn, .nilfn, .nilfn, .nilfn, .nilfn, .nilfn, .nilfn, .nilfn])]) (.s (.ops [q 1 (.build [.nilfn, .nilfn, .nilfn, .nilfn, .nilfn, .nilfn, .nilfn, .nilfn, .nilfn, .nilfn] [(1, (1, (.c (.fn 46 [])))), (2, (1, (.c (.fn 47 [])))), (8, (1, (.c (.fn 48 [])))), (9, (1, (.c (.fn 49 [])))), (7, (1, (.c (.fn 50 [])))), (3, (1, (.c (.fn 51 [])))), (6, (1, (.c (.fn 52 [])))), (4, (1, (.c (.fn 53 [])))), (5, (1, (.c (.fn 54 []))))]), q0 (.store 10 0 1)]) .ret)
def R39 : List RA := [(.cellN 0 10)]
theorem k39 : compF Try.prog (muL []) 39 = some ⟨2, C39_1, R39⟩ := by kernel_rfl
noncomputable def F39  : Option Unit := (some ())
theorem d39  (r : Unit) (hF : F39 = some r) : DFun Try.prog noG 39 [] (.agg [.nilfn, .fn 46 [], .fn 47 [], .fn 51 [], .fn 53 [], .fn 54 [], .fn 52 [], .fn 50 [], .fn 48 [], .fn 49 []]) := by
 unfold F39 at hF
 refine bD k39 rfl ?_
 have hs : SH [] [] := SH.nil
 generalize ([] : Store) = st at hs ⊢
 refine rn 0 rfl ?_
 refine al hs (cs := [.nilfn, .nilfn, .nilfn, .nilfn, .nilfn, .nilfn, .nilfn, .nilfn, .nilfn, .nilfn]) rfl fun st b_1 hs => ?_
 refine rn 0 rfl ?_
 refine W.o (bR (cs := [.nilfn, .fn 46 [], .fn 47 [], .fn 51 [], .fn 53 [], .fn 54 [], .fn 52 [], .fn 50 [], .fn 48 [], .fn 49 []]) rfl rfl) ?_
 refine sr hs 0 rfl rfl rfl (cs' := [.nilfn, .fn 46 [], .fn 47 [], .fn 51 [], .fn 53 [], .fn 54 [], .fn 52 [], .fn 50 [], .fn 48 [], .fn 49 []]) rfl rfl fun st hs => ?_
 refine rn 0 rfl ?_
 cases hF
 exact rD (rl_cellN rfl (hs.g 0 rfl) (LR.whole _ _) rfl rl0) rfl
def C46_1 : ACode := .ops [q 3 (.boxD 9 1)]
def R46 : List RA := []
theorem k46 : compF Try.prog (muL [3]) 46 = some ⟨4, C46_1, R46⟩ := by kernel_rfl
noncomputable def F46 (c : T65) (n : T27) : Option T65 := (some c)
theorem d46 (c : T65) (n : T27) (r : T65) (hF : F46 c n = some r) : ∀ (K : AV → Store → Prop) (Ls : List Asn) (iP0 : Nat), (∀ st, SH st (bx65_0r iP0 r :: Ls) → K (AV.tup []) st) → ∀ (st : Store), SH st (bx65_0r iP0 c :: Ls) → XCall Try.prog noG 46 [.ptr iP0 0, v27 n] st K := by
 unfold F46 at hF
 intro K Ls iP0 hK  st hs
 refine bS k46 rfl ?_
 refine rn 0 rfl ?_
 refine W.o (e_boxD (cs := c27 n) rfl (by rw [c27_len]; rfl) (c27_one _)) ?_
 refine rn 0 rfl ?_
 cases hF
 exact eS rl0 (hK _ hs) rfl
def C47_1 : ACode := .s (.ops [q 3 (.boxD 9 1)]) (.ops [q 4 (.mv 0), q 5 (.faddr 1 3), q 6 (.loadN 4 5), q 7 (.build [(.int .u8 0), (.int .u64 0), (.int .u64 0), (.int .u64 0), (.int .u64 0), (.int .i64 0), (.int .i64 0), (.int .i64 0), (.int .i64 0)] [(0, (1, (ku 1))), (1, (4, 6))]), qc 8 27 [4, 7]])
def R47 : List RA := []
theorem k47 : compF Try.prog (muL [3]) 47 = some ⟨9, C47_1, R47⟩ := by kernel_rfl
noncomputable def F47 (c : T65) (n : T27) : Option T65 := (F27 c ({ Kind := 1, Set := n.Set, To := 0, Group := 0, Last := 0, Slot := 0 } : T52) >>= fun r_1 => (some r_1.2))
theorem d47 (c : T65) (n : T27) (r : T65) (hF : F47 c n = some r) : ∀ (K : AV → Store → Prop) (Ls : List Asn) (iP0 : Nat), (∀ st, SH st (bx65_0r iP0 r :: Ls) → K (AV.tup []) st) → ∀ (st : Store), SH st (bx65_0r iP0 c :: Ls) → XCall Try.prog noG 47 [.ptr iP0 0, v27 n] st K := by
 unfold F47 at hF
 intro K Ls iP0 hK  st hs
 refine bS k47 rfl ?_
 refine rn 0 rfl ?_
 refine W.o (e_boxD (cs := c27 n) rfl (by rw [c27_len]; rfl) (c27_one _)) ?_
 refine rn 1 rfl ?_
 refine W.o (e_faddrD rfl) ?_
 refine W.o (e_loadND rfl (DP.fld (DP.refl _) (lrg27_Set n)) (c24_len _)) ?_
 refine W.o (bR (cs := c52 ({ Kind := 1, Set := n.Set, To := 0, Group := 0, Last := 0, Slot := 0 } : T52)) rfl rfl) ?_
 obtain ⟨r_1, g_2, hF⟩ := bind_some hF
 refine cl (ale rfl) (d27 _ _ _ g_2 _ _ iP0 (fun st hs => ?_) _ hs)
 refine rn 0 rfl ?_
 cases hF
 exact eS rl0 (hK _ hs) rfl
def C48_1 : ACode := .s (.ops [q 3 (.boxD 9 1)]) (.ops [q 4 (.mv 0), q 5 (.build [(.int .u8 0), (.int .u64 0), (.int .u64 0), (.int .u64 0), (.int .u64 0), (.int .i64 0), (.int .i64 0), (.int .i64 0), (.int .i64 0)] [(0, (1, (ku 10)))]), qc 6 27 [4, 5]])
def R48 : List RA := []
theorem k48 : compF Try.prog (muL [3]) 48 = some ⟨7, C48_1, R48⟩ := by kernel_rfl
noncomputable def F48 (c : T65) (n : T27) : Option T65 := (F27 c ({ Kind := 10, Set := (Arr.rep 4 (0 : Int)), To := 0, Group := 0, Last := 0, Slot := 0 } : T52) >>= fun r_1 => (some r_1.2))
theorem d48 (c : T65) (n : T27) (r : T65) (hF : F48 c n = some r) : ∀ (K : AV → Store → Prop) (Ls : List Asn) (iP0 : Nat), (∀ st, SH st (bx65_0r iP0 r :: Ls) → K (AV.tup []) st) → ∀ (st : Store), SH st (bx65_0r iP0 c :: Ls) → XCall Try.prog noG 48 [.ptr iP0 0, v27 n] st K := by
 unfold F48 at hF
 intro K Ls iP0 hK  st hs
 refine bS k48 rfl ?_
 refine rn 0 rfl ?_
 refine W.o (e_boxD (cs := c27 n) rfl (by rw [c27_len]; rfl) (c27_one _)) ?_
 refine rn 1 rfl ?_
 refine W.o (bR (cs := c52 ({ Kind := 10, Set := (Arr.rep 4 (0 : Int)), To := 0, Group := 0, Last := 0, Slot := 0 } : T52)) rfl rfl) ?_
 obtain ⟨r_1, g_2, hF⟩ := bind_some hF
 refine cl (ale rfl) (d27 _ _ _ g_2 _ _ iP0 (fun st hs => ?_) _ hs)
 refine rn 0 rfl ?_
 cases hF
 exact eS rl0 (hK _ hs) rfl
def C49_1 : ACode := .s (.ops [q 3 (.boxD 9 1)]) (.ops [q 4 (.mv 0), q 5 (.build [(.int .u8 0), (.int .u64 0), (.int .u64 0), (.int .u64 0), (.int .u64 0), (.int .i64 0), (.int .i64 0), (.int .i64 0), (.int .i64 0)] [(0, (1, (ku 11)))]), qc 6 27 [4, 5]])
def R49 : List RA := []
theorem k49 : compF Try.prog (muL [3]) 49 = some ⟨7, C49_1, R49⟩ := by kernel_rfl
noncomputable def F49 (c : T65) (n : T27) : Option T65 := (F27 c ({ Kind := 11, Set := (Arr.rep 4 (0 : Int)), To := 0, Group := 0, Last := 0, Slot := 0 } : T52) >>= fun r_1 => (some r_1.2))
theorem d49 (c : T65) (n : T27) (r : T65) (hF : F49 c n = some r) : ∀ (K : AV → Store → Prop) (Ls : List Asn) (iP0 : Nat), (∀ st, SH st (bx65_0r iP0 r :: Ls) → K (AV.tup []) st) → ∀ (st : Store), SH st (bx65_0r iP0 c :: Ls) → XCall Try.prog noG 49 [.ptr iP0 0, v27 n] st K := by
 unfold F49 at hF
 intro K Ls iP0 hK  st hs
 refine bS k49 rfl ?_
 refine rn 0 rfl ?_
 refine W.o (e_boxD (cs := c27 n) rfl (by rw [c27_len]; rfl) (c27_one _)) ?_
 refine rn 1 rfl ?_
 refine W.o (bR (cs := c52 ({ Kind := 11, Set := (Arr.rep 4 (0 : Int)), To := 0, Group := 0, Last := 0, Slot := 0 } : T52)) rfl rfl) ?_
 obtain ⟨r_1, g_2, hF⟩ := bind_some hF
 refine cl (ale rfl) (d27 _ _ _ g_2 _ _ iP0 (fun st hs => ?_) _ hs)
 refine rn 0 rfl ?_
 cases hF
 exact eS rl0 (hK _ hs) rfl
end Go.Proofs.Ytjbafmnocopofaa
end
