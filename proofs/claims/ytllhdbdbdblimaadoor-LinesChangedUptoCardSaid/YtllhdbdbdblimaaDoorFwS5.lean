/-
  A builder of strings: what is said of it, and its functions' laws. (What a program's own functions do is proved in its own text.)
-/
import Derived.Test.YtllhdbdbdblimaaDoorFwS4
import Derived.Lib.Builder
import Derived.Lib.UnsafeStr
set_option linter.unusedVariables false
set_option linter.unusedSimpArgs false
set_option linter.unusedVariables false
namespace Go.Proofs.YtllhdbdbdblimaaDoor.AW
open Go Go.RowKit

/-- A row of a type that is known. -/
def ownT (T id : Nat) (o : Sl Int) : Asn := match o with
  | none => emp
  | some l => pt id (.tail l.length (some T))
def bo (s : Str) : Sl Int := match s with
  | [] => none
  | b :: s => some (ofBs (b :: s))
theorem ls_bo (s : Str) : ls (bo s) = ofBs s := by cases s <;> rfl
theorem sapp_bo (s t : Str) : sapp (bo s) (ofBs t) = bo (s ++ t) := by
  cases s with
  | nil => cases t <;> rfl
  | cons b s => simp [bo, sapp, ls, ofBs]

/-- The builder's two cells and its row. -/
def bldC (id : Nat) (s : Str) (idt : Nat) : List AV := [.ptr id 0, ownV 1 (AV.int .u8) (bo s) idt]
def bldU (T id : Nat) (s : Str) : Asn := fun h => ∃ idt, starL [pt id (.cells (bldC id s idt)), ownT T idt (bo s)] h
def bldA (TB T id : Nat) (s : Str) : Asn := fun h => (s = [] ∧ pt id (.cells [.nilB id TB 2, .nils]) h) ∨ bldU T id s h

theorem SH.open_ {st : Store} {L : List Asn} {ι : Type} {Q : ι → List Asn} (hs : SH st ((fun h => ∃ i, starL (Q i) h) :: L)) : ∃ i, SH st (Q i ++ L) := by
  obtain ⟨a, b, ⟨i, h1⟩, h2, h3, h4⟩ := hs
  exact ⟨i, starL_app.2 ⟨a, b, h1, h2, h3, h4⟩⟩
theorem SH.close_ {st : Store} {L : List Asn} {ι : Type} {Q : ι → List Asn} {i : ι} (hs : SH st (Q i ++ L)) : SH st ((fun h => ∃ i, starL (Q i) h) :: L) := by
  obtain ⟨a, b, h1, h2, h3, h4⟩ := starL_app.1 hs
  exact ⟨a, b, ⟨i, h1⟩, h2, h3, h4⟩
theorem SH.usedO {st : Store} {L : List Asn} {T id : Nat} {s : Str} (hs : SH st (bldU T id s :: L)) : ∃ idt, SH st (pt id (.cells (bldC id s idt)) :: ownT T idt (bo s) :: L) := hs.open_ (Q := fun idt => [pt id (.cells (bldC id s idt)), ownT T idt (bo s)])
theorem SH.usedC {st : Store} {L : List Asn} {T id : Nat} {s : Str} {idt : Nat} (hs : SH st (pt id (.cells (bldC id s idt)) :: ownT T idt (bo s) :: L)) : SH st (bldU T id s :: L) := SH.close_ (Q := fun idt => [pt id (.cells (bldC id s idt)), ownT T idt (bo s)]) (i := idt) hs
theorem SH.usedA {st : Store} {L : List Asn} {TB T id : Nat} {s : Str} (hs : SH st (bldU T id s :: L)) : SH st (bldA TB T id s :: L) := by
  obtain ⟨a, b, h1, h2, h3, h4⟩ := hs
  exact ⟨a, b, .inr h1, h2, h3, h4⟩
theorem SH.bldO {st : Store} {L : List Asn} {TB T id : Nat} {s : Str} (hs : SH st (bldA TB T id s :: L)) : (s = [] ∧ SH st (pt id (.cells [.nilB id TB 2, .nils]) :: L)) ∨ SH st (bldU T id s :: L) := by
  obtain ⟨a, b, h1, h2, h3, h4⟩ := hs
  rcases h1 with ⟨rfl, h1⟩ | h1
  · exact .inl ⟨rfl, a, b, h1, h2, h3, h4⟩
  · exact .inr ⟨a, b, h1, h2, h3, h4⟩

/-- Something is appended to a row of a known type. -/
theorem SH.appT {st : Store} {L : List Asn} {E : Glob} {tm : Fr} {x y : AX} {j T id bytes : Nat} {o : Sl Int} {ys : List Int} (hs : SH st L) (hj : L[j]? = some (ownT T id o)) (hx : tm.x x = ownV 1 (AV.int .u8) o id)
    (hy : appElems 1 st (tm.x y) = some (ys.map (AV.int .u8))) (hb : ((ls o).length + ys.length) * bytes ≤ 140737488355328) :
    ∃ id' st', evalAI E tm st (.appT T 1 bytes x y) = some (ownV 1 (AV.int .u8) (sapp o ys) id', st') ∧ SH st' (L.set j (ownT T id' (sapp o ys))) := by
  cases o with
  | none =>
    cases ys with
    | nil =>
      refine ⟨id, st, ?_, ?_⟩
      · simp only [evalAI, hy, hx]; rfl
      have : L.set j (ownT T id (sapp (none : Sl Int) [])) = L := set_get_self _ _ _ hj
      rw [this]; exact hs
    | cons z zs =>
      simp only [ls_none, List.length_nil, Nat.zero_add] at hb
      refine ⟨st.length, st ++ [.tail (z :: zs).length (some T)], ?_, ?_⟩
      · simp only [evalAI, hy, hx, ownV, List.map_cons]
        rw [if_pos (by simpa using hb)]
        simp [sapp, ls]
      · refine hs.upd hj fun a b ha hd he => ⟨fun i => if i = st.length then some (.tail (z :: zs).length (some T)) else none, fun _ => by simp [sapp, ls], fun i => ?_, fun i => ?_⟩
        · by_cases e : i = st.length
          · right
            have := he i
            rw [List.getElem?_eq_none (by omega)] at this
            exact (PH.or_none.1 this.symm).2
          · exact .inl (if_neg e)
        · by_cases e : i = st.length
          · rw [PH.or_l (a := fun i => if i = st.length then some (.tail (z :: zs).length (some T)) else none) (x := .tail (z :: zs).length (some T)) (if_pos e)]; subst e; simp
          · rw [PH.or_r (a := fun i => if i = st.length then some (.tail (z :: zs).length (some T)) else none) (if_neg e)]
            have h1 := he i
            rw [PH.or_r (ha i)] at h1
            rw [← h1]
            rcases Nat.lt_or_ge i st.length with h | h
            · rw [List.getElem?_append_left h]
            · rw [List.getElem?_eq_none (by simp; omega), List.getElem?_eq_none h]
  | some l =>
    have hg : st[id]? = some (.tail l.length (some T)) := hs.g j hj
    refine ⟨id, st.set id (.tail (l.length + ys.length) (some T)), ?_, ?_⟩
    · simp only [evalAI, hy, hx, ownV, hg, List.length_map]
      rw [if_pos ⟨trivial, trivial, trivial, hb⟩]
      simp [sapp, ls]
    · have := SH.set (o' := .tail (l.length + ys.length) (some T)) hs hj
      have e : ownT T id (sapp (some l) ys) = pt id (.tail (l.length + ys.length) (some T)) := by simp [sapp, ls, ownT]
      rw [e]; exact this

/-- What lies at a box of two cells. -/
theorem box_two {E : Glob} {G : Gh} {st : Store} {w : World} {id : Nat} {v0 v1 : AV} (hs : StoreRel E G st w) (h : st[id]? = some (.cells [v0, v1])) :
    ∃ b arr e fz u0 u1, G.slots[id]? = some (.box b) ∧ w.heap[b]? = some (.cells arr e fz) ∧ 2 ≤ arr.size ∧ arr[0]? = some u0 ∧ arr[1]? = some u1 ∧ Rep G v0 u0 ∧ Rep G v1 u1 ∧ Unf fz arr.size ∧ ∀ o u, G.M b o ≠ some u := by
  have hidl : id < G.slots.length := by rw [hs.len]; exact lt_of_getElem? h
  have hsl : G.slots[id]? = some G.slots[id] := by simp [hidl]
  have hob := hs.obj id _ _ h hsl
  generalize G.slots[id] = s at hob hsl
  cases s <;> simp only [ObjRel] at hob
  rename_i b
  obtain ⟨⟨arr, e, fz, h1, h2, h3, h4⟩, h5⟩ := hob
  simp only [List.length_cons, List.length_nil, Nat.zero_add, Nat.reduceAdd] at h2 h3
  simp only [RepL] at h3
  obtain ⟨u0, us, e1, r0, u1, us2, rfl, r1, rfl⟩ := h3
  refine ⟨b, arr, e, fz, u0, u1, hsl, h1, h2, ?_, ?_, r0, r1, h4, h5⟩
  · have : (arr.toList.take 2)[0]? = some u0 := by rw [e1]; rfl
    simpa [List.getElem?_take] using this
  · have : (arr.toList.take 2)[1]? = some u1 := by rw [e1]; rfl
    simpa [List.getElem?_take] using this

theorem rep_ptr {G : Gh} {id off b : Nat} {u : Value} (h : Rep G (.ptr id off) u) (hs : G.slots[id]? = some (.box b)) : u = .pointer (some ⟨b, off, none⟩) := by
  simpa only [Rep, hs] using h
theorem repL_ptr {G : Gh} {id off b : Nat} {vs : List Value} (h : RepL G [.ptr id off] vs) (hs : G.slots[id]? = some (.box b)) : vs = [.pointer (some ⟨b, off, none⟩)] := by
  simp only [RepL] at h
  obtain ⟨u, us, rfl, h, rfl⟩ := h
  rw [rep_ptr h hs]
theorem setCell_row {w : World} {b o : Nat} {v : Value} {arr : Array Value} {e : TypeId} {fz : Nat × Nat} (h : w.heap[b]? = some (.cells arr e fz)) : w.setCell ⟨b, o, none⟩ v = w.setRow b (arr.setIfInBounds o v) := by
  have : ∀ (x y : Array Obj), x = y → ({ w with heap := x } : World) = { w with heap := y } := fun x y e => by rw [e]
  refine this _ _ ?_
  apply Array.ext_getElem?
  intro i
  simp only [Array.getElem?_modify]
  split
  · rename_i hi
    subst hi
    rw [h]; rfl
  · rfl

/-- A builder that has not been written to takes down where it lies. -/
theorem bld_check {P : Program} {E : Glob} {f : FuncId} {TB T id : Nat} {s : Str} {st : Store} {K : AV → Store → Prop} {Ls : List Asn}
    (hfresh : ∀ (b : Nat) (w : World), w.cell? ⟨b, 0, none⟩ = some (.pointer none) → w.shape? b = some (TB, 2) → w.frozen? ⟨b, 0, none⟩ = false → Calls P f #[.pointer (some ⟨b, 0, none⟩)] w fun e w' => e = .returned (.tuple #[]) ∧ w' = w.setCell ⟨b, 0, none⟩ (.pointer (some ⟨b, 0, none⟩)))
    (hused : ∀ (b : Nat) (w : World), w.cell? ⟨b, 0, none⟩ = some (.pointer (some ⟨b, 0, none⟩)) → Calls P f #[.pointer (some ⟨b, 0, none⟩)] w fun e w' => e = .returned (.tuple #[]) ∧ w' = w)
    (hs : SH st (bldA TB T id s :: Ls)) (hK : ∀ st, SH st (bldU T id s :: Ls) → K (.tup []) st) : XCall P E f [.ptr id 0] st K := by
  intro G w vs hr hw
  rcases hs.bldO with ⟨hnil, h0⟩ | hs
  · subst hnil
    have ho := h0.g 0 rfl
    obtain ⟨b, arr, e, fz, u0, u1, h1, h2, h3, h4, h5, r0, r1, h6, h7⟩ := box_two hw ho
    rw [repL_ptr hr h1]
    simp only [Rep, h1] at r0
    obtain ⟨rfl, hsh⟩ := r0
    obtain ⟨arr2, fz2, k1, k2⟩ := hw.shp _ _ _ hsh
    rw [h2] at k1; cases k1
    refine (hfresh b w (by simp [World.cell?, h2, h4]) (by simp [World.shape?, h2, k2]) (by
      simp only [World.frozen?, h2]
      have := h6.un 0 (by omega)
      unfold Unfrozen at this
      simpa using this)).mono ?_
    rintro x w' ⟨rfl, rfl⟩
    rw [setCell_row h2]
    obtain ⟨q1, q2⟩ := set_box hw (cs' := [.ptr id 0, .nils]) (arr' := arr.setIfInBounds 0 (.pointer (some ⟨b, 0, none⟩))) h1 h2 h7 (by simp) (by simp [k2]) (by
      have e1 : (arr.setIfInBounds 0 (.pointer (some ⟨b, 0, none⟩))).toList.take 2 = [.pointer (some ⟨b, 0, none⟩), u1] := by
        apply List.ext_getElem?
        intro i
        rcases i with _ | _ | i
        · simp [List.getElem?_take, k2]
        · simp only [List.getElem?_take]
          rw [if_pos (by omega), Array.toList_setIfInBounds, List.getElem?_set_ne (by omega)]
          simpa using h5
        · simp only [List.getElem?_take]; rw [if_neg (by omega)]; rfl
      show RepL G _ (List.take 2 _)
      rw [e1]
      simp only [RepL]
      exact ⟨_, _, rfl, by simp only [Rep, h1], _, _, rfl, r1, rfl⟩) (by simpa using h6)
    refine ⟨_, .tup [], _, G, rfl, by simp only [Rep, RepL]; exact ⟨[], rfl, rfl⟩, q1, q2, hK _ (SH.usedC (idt := 0) ?_)⟩
    have q3 := h0.set (j := 0) rfl (.cells [.ptr id 0, .nils])
    obtain ⟨a, c, z1, z2, z3, z4⟩ := q3
    exact ⟨a, c, z1, ⟨fun _ => none, c, fun _ => rfl, z2, fun _ => .inl rfl, fun _ => (PH.or_r rfl).symm⟩, z3, z4⟩
  · obtain ⟨idt, hs2⟩ := hs.usedO
    obtain ⟨b, arr, e, fz, u0, u1, h1, h2, h3, h4, h5, r0, r1, h6, h7⟩ := box_two hw (hs2.g 0 rfl)
    rw [repL_ptr hr h1]
    have := rep_ptr r0 h1
    subst this
    refine (hused b w (by simp [World.cell?, h2, h4])).mono ?_
    rintro x w' ⟨rfl, rfl⟩
    exact ⟨_, .tup [], st, G, rfl, by simp only [Rep, RepL]; exact ⟨[], rfl, rfl⟩, hw, Ext.refl _ _, hK _ hs⟩

/-- An object is given up; its block's cells stay as they are. -/
theorem kill_rel {E : Glob} {G : Gh} {st : Store} {w w' : World} {id b : Nat} {s : Slot} {arr : Array Value} {e : TypeId} {fz fz' : Nat × Nat} (h : StoreRel E G st w) (hid : G.slots[id]? = some s) (hb : s.blk = some b) (harr : w.heap[b]? = some (.cells arr e fz)) (hnew : w'.heap[b]? = some (.cells arr e fz'))
    (hw : ∀ k, k ≠ b → w'.heap[k]? = w.heap[k]?) (hz : w'.heap.size = w.heap.size) (hos : w'.os = w.os) (ht : w'.tape = w.tape) (hout : w'.output = w.output) :
    StoreRel E { slots := G.slots.set id .dead, M := G.M, sh := G.sh } (st.set id .dead) w' ∧ Ext G w { slots := G.slots.set id .dead, M := G.M, sh := G.sh } w' := by
  have hidl := lt_of_getElem? hid
  have hmemS : s ∈ G.slots := List.mem_of_getElem? hid
  have hcell : ∀ (q o : Nat), w'.cell? ⟨q, o, none⟩ = w.cell? ⟨q, o, none⟩ := fun q o => by
    by_cases hq : q = b
    · subst hq; simp [World.cell?, harr, hnew]
    · exact World.cell?_of_block (w := w) (w' := w') (a := ⟨q, o, none⟩) (hw q hq)
  have hg : GExt G { slots := G.slots.set id .dead, M := G.M, sh := G.sh } := by
    have key : ∀ (i : Nat) (t : Slot), G.slots[i]? = some t → (G.slots.set id .dead)[i]? = some t ∨ (G.slots.set id .dead)[i]? = some .dead := fun i t hi => by
      by_cases e' : id = i
      · subst e'; exact .inr (List.getElem?_set_self hidl)
      · exact .inl (by rw [List.getElem?_set_ne e']; exact hi)
    exact ⟨fun _ _ h => h, fun _ _ _ h => h, by simp, fun i b hi => key i _ hi, fun i b hi => key i _ hi, fun i hi => by rcases key i _ hi with h' | h' <;> exact h', fun i b lo hi n hi' => by
      rcases key i _ hi' with h' | h'
      · exact .inr ⟨b, lo, hi, n, h', Nat.le_refl _, fun _ => ⟨rfl, rfl, rfl⟩⟩
      · exact .inl h'⟩
  refine ⟨⟨by simp [h.len], ?_, ?_, fun q o u hu => by rw [hcell]; exact h.mem q o u hu, h.one, fun q e' n hx => ?_, h.glob.mono hg⟩, ⟨hg, hos, ht, hout, by rw [hz]; exact Nat.le_refl _, fun k hk hn => hw k fun e' => hn s hmemS (e' ▸ hb), fun _ _ _ hu => .inl hu, fun t htm q hq => ?_⟩⟩
  · intro i o t hi hti
    by_cases e' : id = i
    · subst e'
      rw [List.getElem?_set_self (by rw [← h.len]; exact hidl)] at hi; cases hi
      have hti' : (G.slots.set id .dead)[id]? = some t := hti
      rw [List.getElem?_set_self hidl] at hti'; cases hti'
      trivial
    · rw [List.getElem?_set_ne e'] at hi
      have hti' : (G.slots.set id .dead)[i]? = some t := hti
      rw [List.getElem?_set_ne e'] at hti'
      exact (h.obj i o t hi hti').keep hg (fun b' hb' => hw b' fun eb => h.apart i id t s b' (Ne.symm e') hti' hid hb' (eb ▸ hb)) fun _ _ _ _ hu => hu
  · intro i j t t' b' hij hti htj hbt
    have hti' : (G.slots.set id .dead)[i]? = some t := hti
    have htj' : (G.slots.set id .dead)[j]? = some t' := htj
    by_cases ei : id = i
    · subst ei; rw [List.getElem?_set_self hidl] at hti'; cases hti'; cases hbt
    · rw [List.getElem?_set_ne ei] at hti'
      by_cases ej : id = j
      · subst ej; rw [List.getElem?_set_self hidl] at htj'; cases htj'; intro hx; cases hx
      · rw [List.getElem?_set_ne ej] at htj'
        exact h.apart i j t t' b' hij hti' htj' hbt
  · obtain ⟨a2, f2, h1, h2⟩ := h.shp q e' n hx
    by_cases hq : q = b
    · subst hq; rw [harr] at h1; cases h1; exact ⟨_, _, hnew, h2⟩
    · exact ⟨a2, f2, by rw [hw q hq]; exact h1, h2⟩
  · have htm' : t ∈ G.slots.set id .dead := htm
    rcases List.mem_or_eq_of_mem_set htm' with h' | rfl
    · exact .inl ⟨t, h', hq⟩
    · cases hq

theorem SH.kill {st : Store} {L : List Asn} {id : Nat} {o : AObj} (hs : SH st (pt id o :: L)) : SH (st.set id .dead) L := starL_tail (P := pt id .dead) (hs.set (j := 0) rfl .dead)

/-- The builder's bytes as a string; it is given up. -/
theorem bld_string {P : Program} {E : Glob} {f : FuncId} {TB T id : Nat} {s : Str} {st : Store} {K : AV → Store → Prop} {Ls : List Asn}
    (hnil : ∀ (b : Nat) (w : World), w.cell? ⟨b, 1, none⟩ = some (.slice none 0 0) → Calls P f #[.pointer (some ⟨b, 0, none⟩)] w fun e w' => e = .returned (.string ⟨#[]⟩) ∧ w' = w.drew)
    (hrow : ∀ (b g cap cells : Nat) (l : List UInt8) (w : World), l ≠ [] → w.cell? ⟨b, 1, none⟩ = some (.slice (some ⟨g, 0, none⟩) l.length cap) → l.length ≤ cap → w.shape? g = some (T, cells) → l.length ≤ cells → l.length ≤ 9223372036854775807 → (∀ j x, l[j]? = some x → w.cell? ⟨g, j, none⟩ = some (.int .u8 x.toNat)) →
      Calls P f #[.pointer (some ⟨b, 0, none⟩)] w fun e w' => e = .returned (.string ⟨l.toArray⟩) ∧ w' = w.drew.freeze ⟨g, 0, none⟩ l.length)
    (hl : s.length ≤ 9223372036854775807) (hs : SH st (bldA TB T id s :: Ls)) (hK : ∀ st, SH st Ls → K (.str s) st) : XCall P E f [.ptr id 0] st K := by
  intro G w vs hr hw
  have nilcase : ∀ (v0 : AV), s = [] → SH st (pt id (.cells [v0, .nils]) :: Ls) → Calls P f vs.toArray w fun e w' => ∃ u r st' G', e = .returned u ∧ Rep G' r u ∧ StoreRel E G' st' w' ∧ Ext G w G' w' ∧ K r st' := by
    intro v0 hnl h0
    obtain ⟨b, arr, e, fz, u0, u1, h1, h2, h3, h4, h5, r0, r1, h6, h7⟩ := box_two hw (h0.g 0 rfl)
    rw [repL_ptr hr h1]
    simp only [Rep] at r1
    subst r1
    refine (hnil b w (by simp [World.cell?, h2, h5])).mono ?_
    rintro x w' ⟨rfl, rfl⟩
    exact ⟨_, .str s, st, G, rfl, by simp only [Rep]; exact ⟨_, by simp [hnl], rfl⟩, hw.drew _, (Ext.refl _ _).drew _, hK _ (starL_tail h0)⟩
  rcases hs.bldO with ⟨hnl, h0⟩ | hs
  · exact nilcase _ hnl h0
  · obtain ⟨idt, hs2⟩ := hs.usedO
    cases s with
    | nil =>
      refine nilcase (.ptr id 0) rfl ?_
      obtain ⟨a, b, z1, z2, z3, z4⟩ := hs2
      exact ⟨a, b, z1, starL_tail z2, z3, z4⟩
    | cons x0 s0 =>
      obtain ⟨b, arr, e, fz, u0, u1, h1, h2, h3, h4, h5, r0, r1, h6, h7⟩ := box_two hw (hs2.g 0 rfl)
      rw [repL_ptr hr h1]
      have ho : st[idt]? = some (.tail (ofBs (x0 :: s0)).length (some T)) := hs2.g 1 rfl
      generalize hse : x0 :: s0 = s at *
      have hne : s ≠ [] := by rw [← hse]; simp
      have r1' : Rep G (.sl 1 ((ofBs s).map (AV.int .u8)) (some idt)) u1 := by rw [← hse] at r1 ⊢; exact r1
      clear r1
      simp only [Rep] at r1'
      obtain ⟨g, o, c, hrs, hlc, htok, rfl⟩ := r1'
      have hidl : idt < G.slots.length := by rw [hw.len]; exact lt_of_getElem? ho
      have hsl : G.slots[idt]? = some G.slots[idt] := by simp [hidl]
      have hob := hw.obj idt _ _ ho hsl
      simp only [TokOk, hsl] at htok
      generalize G.slots[idt] = sl at hob hsl htok
      cases sl <;> simp only [ObjRel] at hob
      rename_i b' lo hi m
      obtain ⟨rfl, hlohi, ⟨arr', te, fz', p1, p2, p3, p5⟩, p4⟩ := hob
      have hte : te = T := p5 T rfl
      subst hte
      simp only [List.length_map] at htok hlc h5
      obtain ⟨_, htok⟩ := htok
      obtain ⟨rfl, rfl, rfl, rfl⟩ := htok trivial
      have hlen : (ofBs s).length = s.length := by simp [ofBs]
      obtain ⟨us, k1, k2, k3, k4⟩ := repS_cells hrs
      have hcells : ∀ j x, s[j]? = some x → w.cell? ⟨b', j, none⟩ = some (.int .u8 x.toNat) := by
        intro j x hx
        have hxs : ((ofBs s).map (AV.int .u8))[j]? = some (.int .u8 x.toNat) := by simp [ofBs, hx]
        obtain ⟨u, hu⟩ : ∃ u, us[j]? = some u := by
          have := lt_of_getElem? hxs
          exact ⟨us[j], by simp [k1, this]⟩
        obtain ⟨q1, q2, q3⟩ := k4 j _ _ hxs hu
        simp only [Rep] at q1
        subst q1
        have := hw.mem _ _ _ (k3 _ _ (q3 0 (.int .u8 x.toNat) rfl))
        simpa using this
      rw [hlen] at h5 hlc
      refine (hrow b b' c arr'.size s w hne (by simp [World.cell?, h2, h5]) hlc (by simp [World.shape?, p1]) (by omega) hl hcells).mono ?_
      rintro x w' ⟨rfl, rfl⟩
      obtain ⟨lo', hi'⟩ := fz'
      obtain ⟨q1, q2⟩ := kill_rel (w' := w.drew.freeze ⟨b', 0, none⟩ s.length) (fz' := if (lo' == hi') = true then (0, 0 + s.length) else (min lo' 0, max hi' (0 + s.length))) hw hsl rfl p1
        (by
          have hn : s.length ≠ 0 := by simpa using hne
          simp only [World.freeze, hn, if_false, World.drew, Array.getElem?_modify, if_true, p1, Option.map_some])
        (fun k hk => by
          have hn : s.length ≠ 0 := by simpa using hne
          simp only [World.freeze, hn, if_false, World.drew, Array.getElem?_modify]
          rw [if_neg (fun e => hk e.symm)])
        (by
          have hn : s.length ≠ 0 := by simpa using hne
          simp only [World.freeze, hn, if_false, Array.size_modify]; rfl)
        (by simp only [World.freeze]; split <;> rfl) (by simp only [World.freeze]; split <;> rfl) (by simp only [World.freeze]; split <;> rfl)
      refine ⟨_, .str s, _, _, rfl, by simp only [Rep]; exact ⟨_, by simp, rfl⟩, q1, q2, hK _ ?_⟩
      have hs3 : SH st (ownT te idt (bo s) :: Ls) := starL_tail hs2
      rw [← hse] at hs3
      exact SH.kill hs3
/-! ### Writing -/
instance : DtV .nilif := ⟨⟨rfl, rfl⟩⟩
def vNif (_ : Unit) : AV := .nilif
instance (u : Unit) : DtV (vNif u) := ⟨⟨rfl, rfl⟩⟩
instance : DtF vNif := ⟨fun _ => ⟨rfl, rfl⟩⟩
theorem ownV_cells {α : Type} {es : Nat} {f : α → AV} {o : Sl α} {id : Nat} : (ownV es f o id).cells = [ownV es f o id] := by cases o <;> rfl
theorem ownV_one {α : Type} {es : Nat} {f : α → AV} {o : Sl α} {id : Nat} : [ownV es f o id].all AV.one = true := by cases o <;> rfl
section
variable {X : Cx} {k : List KJ} {tm : Fr} {fr : List (Nat × AV)} {st : Store} {l : List AOp} {x y : AX} {d : Nat} {L : List Asn}
theorem apT {T bytes id : Nat} {s t : Str} (hs : SH st L) (j : Nat) (hj : L[j]? = some (ownT T id (bo s))) (hx : (updL tm fr).x x = ownV 1 (AV.int .u8) (bo s) id) (hy : appElems 1 st ((updL tm fr).x y) = some ((ofBs t).map (AV.int .u8))) (hb : (s.length + t.length) * bytes ≤ 140737488355328)
    {L' : Nat → List Asn} (hL : ∀ id, setL L j (ownT T id (bo (s ++ t))) = some (L' id)) (hk : ∀ st id, SH st (L' id) → W X (.ops l :: k) (updL tm ((d, (ownV 1 (AV.int .u8) (bo (s ++ t)) id)) :: fr)) st) : W X (.ops (⟨.some d, .none, .plain (.appT T 1 bytes x y)⟩ :: l) :: k) (updL tm fr) st := by
  obtain ⟨id', st', h1, h2⟩ := hs.appT (E := X.E) (bytes := bytes) hj hx hy (by rw [ls_bo]; simpa [ofBs] using hb)
  rw [sapp_bo] at h1 h2
  exact W.po h1 (hk _ _ (setL_eq (hL id') ▸ h2))
theorem slT {T id idt idt' : Nat} {s t : Str} {a : AX} (hs : SH st (pt id (.cells (bldC id s idt)) :: ownT T idt' (bo t) :: L)) (hp : (updL tm fr).x a = .ptr id 1) (hx : (updL tm fr).x x = ownV 1 (AV.int .u8) (bo t) idt') (hk : ∀ st, SH st (bldU T id t :: L) → W X (.ops l :: k) (updL tm fr) st) :
    W X (.ops (⟨.none, .none, .plain (.store 1 a x)⟩ :: l) :: k) (updL tm fr) st :=
  sl hs 0 hp rfl (s := [ownV 1 (AV.int .u8) (bo s) idt]) (s' := [ownV 1 (AV.int .u8) (bo t) idt']) (cs' := bldC id t idt') ⟨[.ptr id 0], [], rfl, rfl, rfl⟩ rfl (by rw [hx, ownV_cells]) rfl ownV_one rfl fun st hs => hk st (SH.usedC hs)
end
def cM (P : Program) (E : Glob) (mu : List Nat) (N : Nat) (res : List RA) (K : AV → Store → Prop) : Cx := ⟨P, E, N, muL mu, res, isK K⟩
theorem bM {P : Program} {E : Glob} {f : FuncId} {mu : List Nat} {n : Nat} {c : ACode} {res : List RA} {ds : List AV} {st : Store} {K : AV → Store → Prop} (hf : compF P (muL mu) f = some ⟨n, c, res⟩) (hl : Nat.ble ds.length n = true) (h : W (cM P E mu n res K) [.code c] (updL (fun _ => .tup []) (fi ds 0)) st) : XCall P E f ds st K :=
  xcallO_at hf (Nat.le_of_ble_eq_true hl) (by rw [fi_init]; exact h.xs)
theorem rM {P : Program} {E : Glob} {mu : List Nat} {N : Nat} {res : List RA} {k : List KJ} {tm : Fr} {st : Store} {v : AV} {vs : List AV} {K : AV → Store → Prop} [hd : DtV v] (h : resL E tm st res = some vs) (hk : K v st) (hr : pack vs = v) : W (cM P E mu N res K) (.code .ret :: k) tm st := rt h (isk (by rw [hr]; exact hd.h) hk)
def wsC (cc T : Nat) : ACode :=
  .s (.ops [q 4 (.mv (ki 0)), q 5 (.mv (.c .nilif))]) (.s (.ops [q 6 (.mv 0), qc 7 cc [6]]) (.s (.ops [q 8 (.mv 0), q 9 (.mv 0), q 10 (.nilck 9), q 11 (.faddr 1 10), q 12 (.load1 11), q 13 (.mv 1), q 14 (.appT T 1 1 12 13), q 15 (.nilck 8), q 16 (.faddr 1 15), q0 (.store 1 16 14)])
    (.s (.ops [q 17 (.mv 1), q 18 (.lenS 17), q 4 (.mv 18), q 5 (.mv (.c .nilif))]) .ret)))
def wbC (cc T : Nat) : ACode :=
  .s (.ops [q 4 (.mv (.c .nilif))]) (.s (.ops [q 5 (.mv 0), qc 6 cc [5]]) (.s (.ops [q 7 (.mv 0), q 8 (.mv 0), q 9 (.nilck 8), q 10 (.faddr 1 9), q 11 (.load1 10), q 12 (.mv 1), q 13 (.bslice 1 1 false [.int .u8 0] [(0, 1, 12)] false), q 14 (.appT T 1 1 11 13), q 15 (.nilck 7), q 16 (.faddr 1 15), q0 (.store 1 16 14)])
    (.s (.ops [q 4 (.mv (.c .nilif))]) .ret)))
section
variable {P : Program} {E : Glob} {f cc TB T id : Nat} {s : Str} {st : Store} {K : AV → Store → Prop} {Ls : List Asn}
attribute [local irreducible] W WD SH XS XLoop DFun XCall
theorem bld_ws (hf : compF P (muL [14]) f = some ⟨19, wsC cc T, [.tmp 4, .tmp 5]⟩) (hcc : ∀ (K : AV → Store → Prop) (st : Store), SH st (bldA TB T id s :: Ls) → (∀ st, SH st (bldU T id s :: Ls) → K (.tup []) st) → XCall P E cc [.ptr id 0] st K)
    {t : Str} (hl : (s.length + t.length) * 1 ≤ 140737488355328) (hs : SH st (bldA TB T id s :: Ls)) (hK : ∀ st, SH st (bldA TB T id (s ++ t) :: Ls) → K (.tup [.int .i64 t.length, .nilif]) st) : XCall P E f [.ptr id 0, .str t] st K := by
  refine bM hf rfl ?_
  refine rn 3 rfl ?_
  refine cl (ale rfl) (hcc _ _ hs fun st hs => ?_)
  obtain ⟨idt, hs⟩ := hs.usedO
  refine rn 2 rfl ?_
  refine W.o (e_nilck rfl (hs.g 0 rfl)) ?_
  refine W.o (e_faddr rfl (hs.g 0 rfl)) ?_
  refine W.o (l1 rfl (hs.g 0 rfl) rfl) ?_
  refine rn 1 rfl ?_
  refine apT (s := s) (t := t) hs 1 rfl rfl (ae_str rfl) hl (fun _ => rfl) fun st idt' hs => ?_
  refine W.o (e_nilck rfl (hs.g 0 rfl)) ?_
  refine W.o (e_faddr rfl (hs.g 0 rfl)) ?_
  refine slT hs rfl rfl fun st hs => ?_
  refine rn 4 rfl ?_
  exact rM (rlt (rlt rl0)) (hK _ hs.usedA) rfl
theorem bld_wb (hf : compF P (muL [14]) f = some ⟨17, wbC cc T, [.tmp 4]⟩) (hcc : ∀ (K : AV → Store → Prop) (st : Store), SH st (bldA TB T id s :: Ls) → (∀ st, SH st (bldU T id s :: Ls) → K (.tup []) st) → XCall P E cc [.ptr id 0] st K)
    {n : Int} (hn : 0 ≤ n ∧ n < 256) (hl : (s.length + 1) * 1 ≤ 140737488355328) (hs : SH st (bldA TB T id s :: Ls)) (hK : ∀ st, SH st (bldA TB T id (s ++ [UInt8.ofNat n.toNat]) :: Ls) → K .nilif st) : XCall P E f [.ptr id 0, .int .u8 n] st K := by
  have hb : ofBs [UInt8.ofNat n.toNat] = [n] := by
    simp only [ofBs, List.map_cons, List.map_nil, List.cons.injEq, and_true, UInt8.toNat_ofNat']
    omega
  refine bM hf rfl ?_
  refine rn 2 rfl ?_
  refine cl (ale rfl) (hcc _ _ hs fun st hs => ?_)
  obtain ⟨idt, hs⟩ := hs.usedO
  refine rn 2 rfl ?_
  refine W.o (e_nilck rfl (hs.g 0 rfl)) ?_
  refine W.o (e_faddr rfl (hs.g 0 rfl)) ?_
  refine W.o (l1 rfl (hs.g 0 rfl) rfl) ?_
  refine rn 1 rfl ?_
  refine bs (f := AV.int .u8) [n] hs rfl rfl rfl rfl fun st id2 hs => ?_
  refine apT (s := s) (t := [UInt8.ofNat n.toNat]) hs 2 rfl rfl (by rw [hb]; exact ae_rd (es := 1) (f := AV.int .u8) (o := some [n]) (rd_W (id := id2) rfl)) hl (fun _ => rfl) fun st idt' hs => ?_
  refine W.o (e_nilck rfl (hs.g 1 rfl)) ?_
  refine W.o (e_faddr rfl (hs.g 1 rfl)) ?_
  have hs := hs.p 3 [1, 1] rfl
  refine slT hs rfl rfl fun st hs => ?_
  refine rn 1 rfl ?_
  exact rM (rlt rl0) (hK _ hs.usedA) rfl
end
theorem bld_new {X : Cx} {k : List KJ} {tm : Fr} {fr : List (Nat × AV)} {st : Store} {l : List AOp} {d : Nat} {L : List Asn} {TB T : Nat} (hs : SH st L) (hk : ∀ st id, SH st (bldA TB T id [] :: L) → W X (.ops l :: k) (updL tm ((d, .ptr id 0) :: fr)) st) :
    W X (.ops (⟨.some d, .none, .plain (.allocB TB 2 [.nilptr, .nils])⟩ :: l) :: k) (updL tm fr) st := by
  refine W.po (v := .ptr st.length 0) (st' := st ++ [.cells [.nilB st.length TB 2, .nils]]) (by simp only [evalAI]; rfl) (hk _ _ ?_)
  obtain ⟨a, b, h1, h2, h3, h4⟩ := hs.push (.cells [.nilB st.length TB 2, .nils])
  exact ⟨a, b, .inl ⟨rfl, h1⟩, h2, h3, h4⟩

/-! The laws as they are used -/
def bWS (b s : Str) : Option (Int × Unit × Str) := if (b.length + s.length) * 1 ≤ 140737488355328 then some (s.length, (), b ++ s) else none
def bWB (b : Str) (n : Int) : Option (Unit × Str) := if (0 ≤ n ∧ n < 256) ∧ (b.length + 1) * 1 ≤ 140737488355328 then some ((), b ++ [UInt8.ofNat n.toNat]) else none
def bST (b : Str) : Option Str := if b.length ≤ 9223372036854775807 then some b else none
end Go.Proofs.YtllhdbdbdblimaaDoor.AW
