/-
  The abstract walk: statements that draw the order of their operations. (Third part: the walk in the order of the text is sound.)
-/
import Derived.Test.YtcidnoghoifmmaaDoorFwT
set_option linter.unusedSimpArgs false
set_option linter.unusedVariables false
namespace Go.Proofs.YtcidnoghoifmmaaDoor.AW
open Go

section
variable {P : Program} {E : Glob} {B N : Nat} {ro : Option Nat} {mu : Nat → Bool} {ops : Array Oper}


theorem push_unborn {G : Gh} {st : Store} {w : World} (h : StoreRel E G st w) : StoreRel E (G.push .unborn G.M) (st ++ [.unborn]) w ∧ Ext G w (G.push .unborn G.M) w := by
  have hg : GExt G (G.push .unborn G.M) := GExt.push fun _ _ _ h => h
  have hsl : ∀ (i : Nat) t, (G.push .unborn G.M).slots[i]? = some t → (i < G.slots.length ∧ G.slots[i]? = some t) ∨ (i = G.slots.length ∧ t = .unborn) := by
    intro i t ht
    simp only [Gh.push, List.getElem?_append] at ht
    split at ht
    · rename_i hi; exact .inl ⟨hi, ht⟩
    · rename_i hi
      right
      have : i - G.slots.length = 0 := by
        rcases Nat.eq_zero_or_pos (i - G.slots.length) with h' | h'
        · exact h'
        · rw [List.getElem?_eq_none (by simp; omega)] at ht; cases ht
      rw [this] at ht
      simp at ht
      exact ⟨by omega, ht.symm⟩
  refine ⟨⟨by simp [Gh.push, h.len], ?_, ?_, h.mem, h.one, h.shp, h.glob.mono hg⟩, ⟨hg, rfl, rfl, rfl, Nat.le_refl _, fun _ _ _ => rfl, fun b o u hu => .inl hu, ?_⟩⟩
  · intro i o' t ho' ht
    rcases hsl i t ht with ⟨hi, ht'⟩ | ⟨hi, rfl⟩
    · rw [getElem?_push_lt (by rw [← h.len]; exact hi)] at ho'
      exact (h.obj i o' t ho' ht').keep hg (fun b hb => rfl) fun b o u hb hu => hu
    · have : o' = .unborn := by
        rw [hi, h.len] at ho'
        simpa using ho'.symm
      rw [this]
      trivial
  · intro i j t t' b hij ht ht' hb
    rcases hsl i t ht with ⟨hi, kt⟩ | ⟨hi, rfl⟩
    · rcases hsl j t' ht' with ⟨hj, kt'⟩ | ⟨hj, rfl⟩
      · exact h.apart i j t t' b hij kt kt' hb
      · intro e; cases e
    · cases hb
  · intro t ht b hb
    simp only [Gh.push, List.mem_append, List.mem_singleton] at ht
    rcases ht with ht | rfl
    · exact .inl ⟨t, ht, hb⟩
    · cases hb

theorem push_unborns : ∀ (n : Nat) {G : Gh} {st : Store} {w : World}, StoreRel E G st w → ∃ G', StoreRel E G' (st ++ List.replicate n .unborn) w ∧ Ext G w G' w
  | 0, G, st, w, h => ⟨G, by simpa using h, Ext.refl G w⟩
  | n + 1, G, st, w, h => by
    obtain ⟨h1, h2⟩ := push_unborn h
    obtain ⟨G', h3, h4⟩ := push_unborns n h1
    refine ⟨G', ?_, h2.trans h4⟩
    rw [List.append_assoc] at h3
    exact h3

theorem birth_rel {G : Gh} {st : Store} {w : World} {id : Nat} {o : AObj} {s : Slot} {M : Nat → Nat → Option Value} {x : Obj} (h : StoreRel E G st w) (hi : st[id]? = some .unborn)
    (hM : ∀ b o u, G.M b o = some u → M b o = some u) (hN : ∀ b o u, M b o = some u → G.M b o = some u ∨ b = w.heap.size)
    (hc : ∀ o u, M w.heap.size o = some u → (w.alloc x).cell? ⟨w.heap.size, o, none⟩ = some u ∧ u.oneCell' = true)
    (hs : s.blk = some w.heap.size) (ho : GExt G { slots := G.slots.set id s, M := M, sh := G.sh } → ObjRel { slots := G.slots.set id s, M := M, sh := G.sh } (w.alloc x) o s) :
    StoreRel E { slots := G.slots.set id s, M := M, sh := G.sh } (st.set id o) (w.alloc x) ∧ Ext G w { slots := G.slots.set id s, M := M, sh := G.sh } (w.alloc x) ∧ (G.slots.set id s)[id]? = some s := by
  have hidl : id < G.slots.length := by rw [h.len]; exact lt_of_getElem? hi
  have hslot : G.slots[id]? = some .unborn := by
    have ho := h.obj id _ G.slots[id] hi (by simp [hidl])
    have hs : G.slots[id]? = some G.slots[id] := by simp [hidl]
    rw [hs]
    generalize G.slots[id] = s at ho
    cases s <;> simp only [ObjRel] at ho
    rfl
  have hheap : ∀ b, b < w.heap.size → (w.alloc x).heap[b]? = w.heap[b]? := fun b hb => Go.RowKit.Below.heap_alloc w x b hb
  have hne : ∀ {j : Nat} {s : Slot}, G.slots[j]? = some s → s ≠ .unborn → id ≠ j := fun hs hn e => by
    subst e; rw [hslot] at hs; cases hs; exact hn rfl
  have hg : GExt G { slots := G.slots.set id s, M := M, sh := G.sh } :=
    ⟨fun _ _ h => h, hM, by simp,
      fun j b hb => .inl (by simp only []; rw [List.getElem?_set_ne (hne hb (by simp))]; exact hb),
      fun j b hb => .inl (by simp only []; rw [List.getElem?_set_ne (hne hb (by simp))]; exact hb),
      fun j hb => by simp only []; rw [List.getElem?_set_ne (hne hb (by simp))]; exact hb,
      fun j b lo hi n hb => .inr ⟨b, lo, hi, n, by simp only []; rw [List.getElem?_set_ne (hne hb (by simp))]; exact hb, Nat.le_refl _, fun _ => ⟨rfl, rfl, rfl⟩⟩⟩
  have hsl : ∀ (j : Nat) t, (G.slots.set id s)[j]? = some t → (j ≠ id ∧ G.slots[j]? = some t) ∨ (j = id ∧ t = s) := by
    intro j t hj
    by_cases e : id = j
    · subst e
      rw [List.getElem?_set_self hidl] at hj
      cases hj
      exact .inr ⟨rfl, rfl⟩
    · rw [List.getElem?_set_ne e] at hj
      exact .inl ⟨Ne.symm e, hj⟩
  refine ⟨⟨by simp [h.len], ?_, ?_, ?_, ?_, fun b e n hx => (by
    have hb := h.shb hx
    obtain ⟨arr, fz, h1, h2⟩ := h.shp b e n hx
    exact ⟨arr, fz, by rw [hheap b hb]; exact h1, h2⟩), h.glob.mono hg⟩, ⟨hg, rfl, rfl, rfl, by simp, fun b hb _ => hheap b hb, ?_, ?_⟩, List.getElem?_set_self hidl⟩
  · intro j o' t ho' ht
    rcases hsl j t ht with ⟨e, ht'⟩ | ⟨rfl, rfl⟩
    · rw [List.getElem?_set_ne (Ne.symm e)] at ho'
      have hr := h.obj j o' t ho' ht'
      refine hr.keep hg (fun b hb => hheap b (hr.block hb)) fun b o u hb hu => ?_
      rcases hN b o u hu with h' | h'
      · exact h'
      · have := hr.block hb; omega
    · rw [List.getElem?_set_self (by rw [← h.len]; exact hidl)] at ho'
      cases ho'
      exact ho hg
  · intro i j t t' b hij ht ht' hb
    rcases hsl i t ht with ⟨e1, kt⟩ | ⟨rfl, rfl⟩ <;> rcases hsl j t' ht' with ⟨e2, kt'⟩ | ⟨rfl, rfl⟩
    · exact h.apart i j t t' b hij kt kt' hb
    · have := h.block (List.mem_of_getElem? kt) hb
      intro hb'; rw [hs] at hb'; cases hb'; omega
    · have e : b = w.heap.size := by rw [hs] at hb; cases hb; rfl
      intro hb'
      have := h.block (List.mem_of_getElem? kt') hb'
      omega
    · exact absurd rfl hij
  · intro b o u hu
    rcases hN b o u hu with h' | rfl
    · exact (World.cell?_alloc_lt (w := w) (a := ⟨b, o, none⟩) (o := x) (h.memBlock h')).trans (h.mem b o u h')
    · exact (hc o u hu).1
  · intro b o u hu
    rcases hN b o u hu with h' | rfl
    · exact h.one b o u h'
    · exact (hc o u hu).2
  · intro b o u hu
    rcases hN b o u hu with h' | rfl
    · exact .inl h'
    · exact .inr (.inr (Nat.le_refl _))
  · intro t ht b hb
    obtain ⟨j, hj⟩ := List.getElem?_of_mem ht
    rcases hsl j t hj with ⟨_, ht'⟩ | ⟨_, rfl⟩
    · exact .inl ⟨t, List.mem_of_getElem? ht', hb⟩
    · rw [hs] at hb; cases hb; exact .inr (Nat.le_refl _)

theorem birth_alloc {G : Gh} {st : Store} {w : World} {id : Nat} {z : List AV} {t : TypeId} (h : StoreRel E G st w) (hi : st[id]? = some .unborn) (hz : zeroOf P t = some z) :
    Runs P E (Instr.alloc t true (.tuple #[])) w G (.ptr id 0) (st.set id (.cells z)) := by
  obtain ⟨i, z0, hi1, hz1, hz2, hz3, hz4⟩ := zeroOf_spec hz
  have hnew : ∀ o u, G.M w.heap.size o ≠ some u := fun o u hu => by have := h.memBlock hu; omega
  obtain ⟨h1, h2, h3⟩ := birth_rel (o := .cells z) (s := .box w.heap.size) (M := G.M) (x := .cells z0.cells t (0, 0)) h hi (fun _ _ _ h => h) (fun _ _ _ h => .inl h) (fun o u hu => absurd hu (hnew o u)) rfl (fun hg => by
    have hl := repL_length (hz3 G)
    refine ⟨⟨z0.cells, t, (0, 0), Array.getElem?_push_size, ?_, ?_, .inl rfl⟩, hnew⟩
    · simp at hl; omega
    · rw [List.take_of_length_le (by omega)]
      exact RepL.mono hg (hz3 G))
  refine ⟨.pointer (some ⟨w.heap.size, 0, none⟩), _, _, ?_, ?_, h1, h2⟩
  · simp [Instr.alloc, hz4, newVar, newRow]
  · simp only [Rep, h3]

theorem birth_map {G : Gh} {st : Store} {w : World} {id : Nat} {t : TypeId} {kd : Option IntKind} (h : StoreRel E G st w) (hi : st[id]? = some .unborn) :
    Runs P E (Instr.makeMap t none) w G (.mp id) (st.set id (.map kd (fun _ => none) 0)) := by
  have hnew : ∀ o u, G.M w.heap.size o ≠ some u := fun o u hu => by have := h.memBlock hu; omega
  obtain ⟨h1, h2, h3⟩ := birth_rel (o := .map kd (fun _ => none) 0) (s := .mapo w.heap.size) (M := G.M) (x := .map #[] 0) h hi (fun _ _ _ h => h) (fun _ _ _ h => .inl h) (fun o u hu => absurd hu (hnew o u)) rfl (fun hg =>
    ⟨⟨#[], 0, Array.getElem?_push_size, mapRel_empty kd⟩, hnew⟩)
  refine ⟨.map (some w.heap.size), _, _, ?_, ?_, h1, h2⟩
  · simp [Instr.makeMap, newObj, Sem.run]
  · simp only [Rep, h3]

theorem birth_bslice {t e : TypeId} {G : Gh} {st : Store} {w : World} {id len es : Nat} {ag : Bool} {zs : List AV} {parts : Array (Nat × Operand)} {ps : List (Nat × Nat × AX)} {l : List (Nat × List AV)} {tm : Fr} {a : Act} (h : StoreRel E G st w) (hi : st[id]? = some .unborn) (hf : FrRel G tm a)
    (ht : P.underlying t = some (.slice e)) (hz : zeroOf P e = some zs) (hp : cParts P t parts.toList = some ps) (hsz : sizeA P e = some es) (hes : 0 < es) (hlim : len * es ≤ 16777216) (hag : ag = true ∨ es = 1) (hl : partsOk (len * es) ps tm = some l) (hone : (fillA (rep0 zs len) l).all AV.one = true) :
    Runs P E (Instr.buildSlice t len (parts.map fun (i, x) => (i, a.eval x))) w G (.sl es ((chunks es len (fillA (rep0 zs len) l)).map (ofCells ag)) (some id)) (st.set id (.tail len)) := by
  obtain ⟨us', k2, hul, hrun⟩ := run_bslice (w := w) (G := G) hf ht hz hp hsz hes hlim hl
  have hfl : (fillA (rep0 zs len) l).length = us'.size := by have := repL_length k2; simp at this; omega
  have hnew : ∀ o u, G.M w.heap.size o ≠ some u := fun o u hu => by have := h.memBlock hu; omega
  let M : Nat → Nat → Option Value := fun b o => if b = w.heap.size then us'[o]? else G.M b o
  have hMsz : ∀ o, M w.heap.size o = us'[o]? := fun o => if_pos rfl
  obtain ⟨h1, h2, h3⟩ := birth_rel (o := .tail len) (s := .tail w.heap.size us'.size us'.size len) (M := M) (x := .cells us' e (0, 0)) h hi
    (fun b o u hu => by
      have hne : b ≠ w.heap.size := fun e' => hnew o u (e' ▸ hu)
      simp only [M, if_neg hne]; exact hu)
    (fun b o u hu => by
      by_cases hb : b = w.heap.size
      · exact .inr hb
      · simp only [M, if_neg hb] at hu; exact .inl hu)
    (fun o u hu => by
      rw [hMsz] at hu
      exact ⟨by rw [World.cell?_alloc_mark]; exact hu, repL_one k2 hone u (by simpa using Array.mem_of_getElem? hu)⟩) rfl
    (fun hg => ⟨rfl, Nat.le_refl _, ⟨us', e, (0, 0), Array.getElem?_push_size, Nat.le_refl _, .inl rfl, fun T h => by cases h⟩, fun o u ho hu => by
      have hu' : M w.heap.size o = some u := hu
      rw [hMsz, Array.getElem?_eq_none (by omega)] at hu'; cases hu'⟩)
  refine ⟨_, _, _, hrun, ?_, h1, h2⟩
  simp only [Rep]
  have hlen : ∀ (n : Nat) (cs : List AV), (chunks es n cs).length = n := by
    intro n
    induction n with
    | zero => intro cs; rfl
    | succ n ih => intro cs; simp [chunks, ih]
  refine ⟨w.heap.size, 0, len, ?_, by simp [hlen], ?_, by simp [hlen]⟩
  · refine rep_newrow hes hag (RepL.mono h2.g k2) hul hone fun j v hv => ?_
    rw [Nat.zero_add]
    show M w.heap.size j = some v
    rw [hMsz]
    simpa using hv
  · simp only [TokOk, h3, List.length_map, hlen, Nat.zero_add]
    refine ⟨Nat.le_refl _, fun _ => ⟨trivial, by omega, by omega, by simp⟩⟩

theorem compBin_born {op : BinOp} {t : TypeId} {x y : AX} {i : AI} (hb : AK.born (.plain i) = true) : compBin P op t x y ≠ some i := by
  intro h
  unfold compBin at h
  repeat' (first | split at h | (simp only [Option.some.injEq] at h; subst h; simp [AK.born] at hb; done) | (cases h; done))

theorem compCall_born {c : Call} {i : AI} {mu : Bool} (hb : AK.born (.plain i) = true) : compCall P mu c ≠ some i := by
  intro h
  unfold compCall at h
  repeat' (first | split at h | (simp only [Option.some.injEq] at h; subst h; simp [AK.born] at hb; done) | (cases h; done) | (simp only [Option.bind_eq_some_iff] at h; obtain ⟨_, _, h⟩ := h))

theorem compK_plain {m : Bool} {op : Op} {i : AI} (hb : AK.born (.plain i) = true) (h : compK P m op = some (.plain i)) : comp P m op = some i := by
  cases op
  case call c =>
    exfalso
    simp only [compK] at h
    repeat' (first | (simp only [Option.some.injEq, AK.plain.injEq] at h; subst h; simp [AK.born] at hb; done) | (cases h; done) | (simp only [Option.some.injEq, reduceCtorEq] at h; done) | (simp only [Option.map_eq_some_iff, AK.plain.injEq, exists_eq_right] at h; exact compCall_born hb h) | split at h)
  all_goals
    simp only [compK, Option.map_eq_some_iff, AK.plain.injEq, exists_eq_right] at h
    exact h

theorem comp_alloc {m : Bool} {op : Op} {z : List AV} (h : comp P m op = some (.alloc z)) : ∃ t, op = .alloc t ∧ zeroOf P t = some z := by
  unfold comp at h
  split at h
  case h_4 =>
    rename_i t
    simp only [Option.map_eq_some_iff] at h
    obtain ⟨z', hz, e⟩ := h
    split at e
    · cases e
    · cases e; exact ⟨_, rfl, hz⟩
  all_goals (exfalso; (repeat' (first | exact compCall_born rfl h | exact compBin_born rfl h | (cases h; done) | (simp only [Option.some.injEq, reduceCtorEq] at h; done) | (simp only [Option.map_eq_some_iff, reduceCtorEq, and_false, exists_false] at h; done) | split at h)); done)

theorem comp_mkmap {m : Bool} {op : Op} {kd : Option IntKind} (h : comp P m op = some (.mkmap kd)) : ∃ t, op = .makeMap t none := by
  unfold comp at h
  split at h
  all_goals first
    | exact ⟨_, rfl⟩
    | (exfalso; (repeat' (first | exact compCall_born rfl h | exact compBin_born rfl h | (cases h; done) | (simp only [Option.some.injEq, reduceCtorEq] at h; done) | (simp only [Option.map_eq_some_iff, reduceCtorEq, and_false, exists_false] at h; done) | split at h)); done)

theorem comp_bslice {m mu : Bool} {op : Op} {es len : Nat} {ag : Bool} {zs : List AV} {ps : List (Nat × Nat × AX)} (h : comp P m op = some (.bslice es len ag zs ps mu)) :
    ∃ t e parts, op = .buildSlice t len parts ∧ P.underlying t = some (.slice e) ∧ zeroOf P e = some zs ∧ cParts P t parts.toList = some ps ∧ sizeA P e = some es ∧ 0 < es ∧ len * es ≤ 16777216 ∧ (ag = true ∨ es = 1) := by
  unfold comp at h
  split at h
  all_goals first
    | (exfalso; (repeat' (first | exact compCall_born rfl h | exact compBin_born rfl h | (cases h; done) | (simp only [Option.some.injEq, reduceCtorEq] at h; done) | (simp only [Option.map_eq_some_iff, reduceCtorEq, and_false, exists_false] at h; done) | split at h)); done)
    | skip
  split at h
  · split at h
    · split at h
      · rename_i hcond
        cases m
        · simp only [Bool.false_eq_true, if_false] at h
          cases h
          exact ⟨_, _, _, rfl, by assumption, by assumption, by assumption, by assumption, hcond.1, hcond.2.1, hcond.2.2⟩
        · simp only [if_true] at h
          cases h
      · cases h
    · cases h
  · cases h

theorem app_none {s s' : Store} (h : Eff.none.app s = some s') : s' = s := by
  simp only [Eff.app, Eff.id, Option.some.injEq] at h
  exact h.symm

theorem no_lost {E : Glob} {G : Gh} {st : Store} {w : World} (h : StoreRel E G st w) (id : Nat) : st[id]? ≠ some .lost := fun e => by
  have hl : id < G.slots.length := by rw [h.len]; exact lt_of_getElem? e
  have := h.obj id _ G.slots[id] e (by simp [hl])
  generalize G.slots[id] = s at this
  cases s <;> exact this
theorem app_born {s s' : Store} {id : Nat} {o : AObj} (hn : s[id]? ≠ some .lost) (h : (Eff.born id o).app s = some s') : s[id]? = some .unborn ∧ s' = s.set id o := by
  simp only [Eff.app, Eff.id] at h
  split at h
  · rename_i x hx
    simp only [Option.map_eq_some_iff, Eff.upd] at h
    obtain ⟨y, hy, rfl⟩ := h
    cases x <;> simp only [reduceCtorEq, Option.some.injEq] at hy
    · subst hy
      exact ⟨hx, rfl⟩
    · exact absurd hx hn
  · cases h

theorem agree_set {st s : Store} {id : Nat} {o : AObj} (hA : Agree st s) (h : ∀ x, st[id]? = some x → x.live = false) (hh : st[id]? = some .hid → ∃ cs, o = .cells cs) : Agree st (s.set id o) := by
  refine ⟨fun i x hx hl => ?_, fun i hx => ?_⟩
  · by_cases e : id = i
    · subst e; rw [h x hx] at hl; cases hl
    · rw [List.getElem?_set_ne e]; exact hA.l i x hx hl
  · by_cases e : id = i
    · subst e
      obtain ⟨cs, rfl⟩ := hh hx
      obtain ⟨cs', h'⟩ := hA.hid _ hx
      exact ⟨cs, List.getElem?_set_self (lt_of_getElem? h')⟩
    · rw [List.getElem?_set_ne e]; exact hA.hid i hx

theorem app_agree {st s s' : Store} {mr r : Nat} {k : AK} {tm : Fr} {v : AV} {e : Eff} (hA : Agree st s) (hy : qv P E st mr r k tm v e) (h : e.app s = some s') : Agree st s' := by
  have far : ∀ (n : Nat) (x : AObj), st[st.length + n]? = some x → x.live = false := fun n x hx => by
    rw [List.getElem?_eq_none (by omega)] at hx; cases hx
  have far2 : ∀ (n : Nat), st[st.length + n]? = some .hid → False := fun n hx => by
    rw [List.getElem?_eq_none (by omega)] at hx; cases hx
  have gen : ∀ id, e.id = some id → (∀ x, st[id]? = some x → x.live = false) → (∀ x y, e.upd x = some y → st[id]? = some .hid → ∃ cs, y = .cells cs) → Agree st s' := by
    intro id hid hd hy2
    unfold Eff.app at h
    rw [hid] at h
    simp only at h
    split at h
    · simp only [Option.map_eq_some_iff] at h
      obtain ⟨y, hy3, rfl⟩ := h
      exact agree_set hA hd (hy2 _ _ hy3)
    · cases h
  cases k with
  | plain i =>
    cases i <;> simp only [qv] at hy
    case alloc z => obtain ⟨_, rfl⟩ := hy; exact gen _ rfl (far _) fun _ _ _ hx => (far2 _ hx).elim
    case mkmap kd => obtain ⟨_, rfl⟩ := hy; exact gen _ rfl (far _) fun _ _ _ hx => (far2 _ hx).elim
    case bslice es len ag zero parts mu => obtain ⟨l, _, _, _, _, rfl⟩ := hy; exact gen _ rfl (far _) fun _ _ _ hx => (far2 _ hx).elim
    case store n a x => obtain ⟨id, off, _, hd, _, rfl⟩ := hy; exact gen _ rfl (fun x hx => by rw [hd] at hx; cases hx; rfl) fun x y hxy _ => (by
      simp only [Eff.upd] at hxy
      split at hxy
      · split at hxy
        · cases hxy; exact ⟨_, rfl⟩
        · cases hxy
      · cases hxy)
    case mapset kd m q x => obtain ⟨c, _, _, _, rfl⟩ := hy; exact gen _ rfl (far _) fun _ _ _ hx => (far2 _ hx).elim
    case cvB x => obtain ⟨_, _, _, _, _, _, _, rfl⟩ := hy; rw [(chk_app h).1]; exact hA
    all_goals (obtain ⟨_, _, rfl⟩ := hy; rw [app_none h]; exact hA)
  | call f as => obtain ⟨_, _, rfl⟩ := hy; rw [app_none h]; exact hA
  | callv f as =>
    obtain ⟨_, _, _, c, es, xs, id, n, _, _, hle, _, rfl⟩ := hy
    obtain ⟨q, rfl⟩ : ∃ q, id = st.length + q := ⟨id - st.length, by omega⟩
    exact gen _ rfl (far _) fun _ _ _ hx => (far2 _ hx).elim

section
variable {o : Oper} {m : Bool} {G : Gh} {tm : Fr} {st s s' : Store} {mr r : Nat} {v : AV} {e : Eff} {a : Act} {w : World} {next : Act → World → Prop} {Q : Exit → Act → World → Prop}

theorem make_wp {sm : Sem Value} (hnd : ∀ c, o.op ≠ .defer c) (hn : ∀ u G' w', Rep G' v u → StoreRel E G' s' w' → Ext G w G' w' → next (a.put o.dst u) w') (hex : execOp a.eval o = (do pure (Next.value (← sm)))) (hr : Runs P E sm w G v s') : o.wpIn (fen ro) 0 P a w next Q := by
  obtain ⟨u, w', G', hr, h1, h2, h3⟩ := hr
  refine wpIn_of hnd ?_
  rw [hex]
  simp only [Sem.run_bind, hr, Result.andThen_ok, Sem.run_pure, Oper.uponIn]
  exact hn u G' w' h1 h2 h3

theorem still_wp {k : AK} (h : Rel B N E G tm s a w) (hc : compK P m o.op = some k) (hn : ∀ u G' w', Rep G' v u → StoreRel E G' s' w' → Ext G w G' w' → next (a.put o.dst u) w') (hx : xAI P E k tm s (fun v' st' => v' = v ∧ st' = s')) : o.wpIn (fen ro) 0 P a w next Q :=
  xAI_sound (K := fun v' st' => v' = v ∧ st' = s') h hc hx fun u v' st' G' w' h1 h2 h3 ⟨e1, e2⟩ => by subst e1; subst e2; exact hn u G' w' h1 h2 h3

theorem xAI_some {i : AI} (he : evalAI E tm s i = some (v, s')) : xAI P E (.plain i) tm s (fun v' st' => v' = v ∧ st' = s') := by
  simp only [xAI, he, and_self]

theorem put_eval {n : Nat} {a' x : AX} {id off : Nat} (h1 : tm.x a' = .ptr id off) (ha : (Eff.put id off n (tm.x x).cells).app s = some s') : evalAI E tm s (.store n a' x) = some (.tup [], s') := by
  simp only [Eff.app, Eff.id] at ha
  split at ha
  · rename_i o' ho'
    simp only [Option.map_eq_some_iff, Eff.upd] at ha
    obtain ⟨y, hy, rfl⟩ := ha
    cases o' <;> simp only [reduceCtorEq] at hy
    split at hy
    · rename_i hcond
      cases hy
      simp only [evalAI, h1, ho']
      rw [if_pos hcond]
    · cases hy
  · cases ha

theorem ins_eval {kd : Option IntKind} {m' q x : AX} {id : Nat} {c : Key} (h1 : tm.x m' = .mp id) (h2 : keyOf kd (tm.x q) = some c) (ha : (Eff.ins id kd c (tm.x x)).app s = some s') : evalAI E tm s (.mapset kd m' q x) = some (.tup [], s') := by
  simp only [Eff.app, Eff.id] at ha
  split at ha
  · rename_i o' ho'
    simp only [Option.map_eq_some_iff, Eff.upd] at ha
    obtain ⟨y, hy, rfl⟩ := ha
    cases o' <;> simp only [reduceCtorEq] at hy
    split at hy
    · rename_i hcond
      cases hy
      simp only [evalAI, h1, h2, ho']
      rw [if_pos hcond.1]
      simp only [hcond.2, if_true]
    · cases hy
  · cases ha

theorem alloc_wp {z : List AV} (h : Rel B N E G tm s a w) (hc : compK P m o.op = some (.plain (.alloc z))) (hu : s[r]? = some .unborn) (hn : ∀ u G' w', Rep G' (.ptr r 0) u → StoreRel E G' (s.set r (.cells z)) w' → Ext G w G' w' → next (a.put o.dst u) w') : o.wpIn (fen ro) 0 P a w next Q := by
  obtain ⟨t, hop, hz⟩ := comp_alloc (compK_plain rfl hc)
  exact make_wp (compK_noDefer hc) hn (by simp only [execOp, hop]) (birth_alloc h.st hu hz)

theorem mkmap_wp {kd : Option IntKind} (h : Rel B N E G tm s a w) (hc : compK P m o.op = some (.plain (.mkmap kd))) (hu : s[r]? = some .unborn) (hn : ∀ u G' w', Rep G' (.mp r) u → StoreRel E G' (s.set r (.map kd (fun _ => none) 0)) w' → Ext G w G' w' → next (a.put o.dst u) w') : o.wpIn (fen ro) 0 P a w next Q := by
  obtain ⟨t, hop⟩ := comp_mkmap (compK_plain rfl hc)
  exact make_wp (sm := Instr.makeMap t none) (compK_noDefer hc) hn (by simp only [execOp, hop, Option.map_none]) (birth_map h.st hu)

theorem run_bslice_op {es len : Nat} {ag mu : Bool} {zs : List AV} {ps : List (Nat × Nat × AX)} {l : List (Nat × List AV)} (h : Rel B N E G tm s a w) (hc : compK P m o.op = some (.plain (.bslice es len ag zs ps mu))) (hu : s[r]? = some .unborn) (hl : partsOk (len * es) ps tm = some l) (hone : (fillA (rep0 zs len) l).all AV.one = true) :
    ∃ sm : Sem Value, execOp a.eval o = (do pure (Next.value (← sm))) ∧ Runs P E sm w G (.sl es ((chunks es len (fillA (rep0 zs len) l)).map (ofCells ag)) (some r)) (s.set r (.tail len)) := by
  have hc' := compK_plain rfl hc
  obtain ⟨t, e, parts, hop, ht, hz, hp, hsz, hes, hlim, hor⟩ := comp_bslice hc'
  have hr := @birth_bslice P E t e G s w r len es ag zs parts ps l tm a h.st hu h.fr ht hz hp hsz hes hlim hor hl hone
  refine ⟨_, ?_, hr⟩
  simp only [execOp, hop]

theorem bslice_wp {es len : Nat} {ag mu : Bool} {zs : List AV} {ps : List (Nat × Nat × AX)} {l : List (Nat × List AV)} (h : Rel B N E G tm s a w) (hc : compK P m o.op = some (.plain (.bslice es len ag zs ps mu))) (hu : s[r]? = some .unborn) (hl : partsOk (len * es) ps tm = some l) (hone : (fillA (rep0 zs len) l).all AV.one = true)
    (hn : ∀ u G' w', Rep G' (.sl es ((chunks es len (fillA (rep0 zs len) l)).map (ofCells ag)) (some r)) u → StoreRel E G' (s.set r (.tail len)) w' → Ext G w G' w' → next (a.put o.dst u) w') : o.wpIn (fen ro) 0 P a w next Q := by
  obtain ⟨sm, hex, hr⟩ := run_bslice_op h hc hu hl hone
  exact make_wp (compK_noDefer hc) hn hex hr

theorem qv_sound {k : AK} (h : Rel B N E G tm s a w) (hA : Agree st s) (hc : compK P m o.op = some k)
    (hy : qv P E st mr r k tm v e) (ha : e.app s = some s') (hn : ∀ u G' w', Rep G' v u → StoreRel E G' s' w' → Ext G w G' w' → next (a.put o.dst u) w') : o.wpIn (fen ro) 0 P a w next Q := by
  cases k with
  | plain i =>
    cases i
    case alloc z =>
      obtain ⟨rfl, rfl⟩ := hy
      obtain ⟨hu, rfl⟩ := app_born (no_lost h.st _) ha
      exact alloc_wp h hc hu hn
    case mkmap kd =>
      obtain ⟨rfl, rfl⟩ := hy
      obtain ⟨hu, rfl⟩ := app_born (no_lost h.st _) ha
      exact mkmap_wp h hc hu hn
    case bslice es len ag zero parts mu =>
      obtain ⟨l, hl, hmu, hone, rfl, rfl⟩ := hy
      obtain ⟨hu, rfl⟩ := app_born (no_lost h.st _) ha
      exact bslice_wp h hc hu hl hone hn
    case store n a' x =>
      obtain ⟨id, off, h1, h2, rfl, rfl⟩ := hy
      exact still_wp h hc hn (xAI_some (put_eval h1 ha))
    case mapset kd m' q x =>
      obtain ⟨c, h1, h2, rfl, rfl⟩ := hy
      exact still_wp h hc hn (xAI_some (ins_eval h1 h2 ha))
    case cvB x =>
      obtain ⟨n, es, xs, id, rfl, h2, rfl, rfl⟩ := hy
      obtain ⟨rfl, hs⟩ := chk_app ha
      rcases hs with hs | hs
      · exfalso
        have hr := h.fr n
        rw [h2] at hr
        have hl : id < G.slots.length := by rw [h.st.len]; exact lt_of_getElem? hs
        have ho := h.st.obj id _ G.slots[id] hs (by simp [hl])
        have hsl : G.slots[id]? = some G.slots[id] := by simp [hl]
        simp only [Rep] at hr
        obtain ⟨b, o', c, _, _, ht, _⟩ := hr
        simp only [TokOk, hsl] at ht
        generalize G.slots[id] = sl at ho ht
        cases sl <;> simp only [ObjRel] at ho ht
      · refine still_wp h hc hn (xAI_some ?_)
        simp only [evalAI, Fr.x, h2, hs, if_true]
    all_goals
      obtain ⟨hs, he, rfl⟩ := hy
      rw [app_none ha] at hn
      exact still_wp h hc hn (xAI_some (eval_more hA hs he).2)
  | call f as =>
    obtain ⟨h1, h2, rfl⟩ := hy
    rw [app_none ha] at hn
    exact still_wp h hc hn (xcall_fun h2 h1 rfl ⟨rfl, rfl⟩)
  | callv f as =>
    obtain ⟨g, rfl, hcb, c, es, xs, id, n, hmem, htm, _, hk, rfl⟩ := hy
    simp only [Eff.app, Eff.id] at ha
    split at ha
    · rename_i x hx
      simp only [Option.map_eq_some_iff] at ha
      obtain ⟨y, hy, rfl⟩ := ha
      cases x <;> simp only [Eff.upd, reduceCtorEq] at hy
      · rename_i m' t
        cases t with
        | none =>
          simp only at hy
          split at hy
          · rename_i e
            subst e
            cases hy
            refine still_wp h hc hn ?_
            simp only [xAI, Fr.x, List.append_nil]
            exact ⟨hcb, hk s hx⟩
          · cases hy
        | some t => cases hy
      · exfalso
        have hr := h.fr c
        rw [htm] at hr
        have hl : id < G.slots.length := by rw [h.st.len]; exact lt_of_getElem? hx
        have ho := h.st.obj id _ G.slots[id] hx (by simp [hl])
        have hsl : G.slots[id]? = some G.slots[id] := by simp [hl]
        simp only [Rep] at hr
        obtain ⟨b, o', c, _, _, ht, _⟩ := hr
        simp only [TokOk, hsl] at ht
        generalize G.slots[id] = sl at ho ht
        cases sl <;> simp only [ObjRel] at ho ht
    · cases ha
end

theorem any_sound {al : List AOp} {nq m : Nat} {st : Store} {K : Fr → Store → Prop} {Q : Exit → Act → World → Prop} {G0 : Gh} {w0 : World} (hal : ops.toList.mapM (compOp P N mu ops) = some al)
    (hend : ∀ G' tm' s' a' w', Rel B N E G' tm' s' a' w' → Ext G0 w0 G' w' → K tm' s' → wpAnyIn (fen ro) 0 P .any ops Q m (listedN ops.size nq) a' w') :
    ∀ (f : Nat) (L : Array Bool) (tm : Fr) (s : Store) (G : Gh) (a : Act) (w : World), Rel B N E G tm s a w → Agree st s → Ext G0 w0 G w → anyQ P E ops st al nq K f L tm s → wpAnyIn (fen ro) 0 P .any ops Q (f + m) L a w := by
  intro f
  induction f with
  | zero =>
    intro L tm s G a w h hA hext hx
    obtain ⟨rfl, hk⟩ := hx
    rw [Nat.zero_add]
    exact hend G tm s a w h hext hk
  | succ f ih =>
    intro L tm s G a w h hA hext hx
    rw [show f + 1 + m = (f + m) + 1 by omega]
    refine ⟨fun e => absurd e hx.1, fun i hi => ?_⟩
    obtain ⟨hin, x, hxi, v, e, s', hy, ha, hx'⟩ := hx.2 i hi
    obtain ⟨hun, o, ho, _⟩ := mem_ready.1 hi
    obtain ⟨x', hx1, hxo⟩ := mapM_getElem? hal i o (by simpa using ho)
    rw [hxi] at hx1; cases hx1
    obtain ⟨hdst, hdn, hcomp, hg⟩ := compOp_spec hxo
    have go : ∀ (u : Value) (v : AV) (s' : Store) (G' : Gh) (w' : World), Agree st s' → Rep G' v u → StoreRel E G' s' w' → Ext G w G' w' → anyQ P E ops st al nq K f (L.setIfInBounds i true) (tm.put x.dst v) s' →
        wpAnyIn (fen ro) 0 P .any ops Q (f + m) (L.setIfInBounds i true) (a.put o.dst u) w' := by
      intro u v s' G' w' hA' h1 h2 h3 h4
      refine ih _ (tm.put x.dst v) s' G' (a.put o.dst u) w' ?_ hA' (hext.trans h3) h4
      rw [hdst]
      exact (h.ext h3 h2).put hdn h1
    have run : qv P E st (mapRk al) (rkL al i) x.ins tm v e → o.wpIn (fen ro) 0 P a w (wpAnyIn (fen ro) 0 P .any ops Q (f + m) (L.setIfInBounds i true)) Q := fun hq =>
      qv_sound h hA hcomp hq ha fun u G' w' h1 h2 h3 => go u v s' G' w' (app_agree hA hq ha) h1 h2 h3 hx'
    unfold wpOpIn
    rw [ho]
    simp only []
    unfold yv at hy
    rcases hg with ⟨g1, g2⟩ | ⟨j, b, d, g1, gj, g2⟩
    · rw [g2] at hy
      rw [if_pos (by simp [Region.wanted, g1])]
      exact run hy
    · rw [g2] at hy
      simp only at hy
      split at hy
      · rename_i t ht
        have hd := h.fr d
        rw [ht] at hd
        simp only [Rep] at hd
        have hyd : yielded ops a.tmps j = some t := by
          have hlt : d < a.tmps.size := by
            rcases Nat.lt_or_ge d a.tmps.size with h' | h'
            · exact h'
            · exfalso
              simp [Array.getElem?_eq_none h', undef] at hd
          have : a.tmps[d]? = some (.bool t) := by
            simp [hlt] at hd ⊢
            exact hd
          simp [yielded, gj, this]
        split at hy
        · rename_i hb
          rw [if_pos (by simp [Region.wanted, g1, hyd, hb])]
          exact run hy
        · rename_i hb
          rw [if_neg (by simp [Region.wanted, g1, hyd, hb])]
          refine ⟨fun _ _ => trivial, ?_⟩
          obtain ⟨rfl, rfl⟩ := hy
          rw [app_none ha] at hx'
          exact go undef (.tup []) s G w hA (rep_undef G) h.st (Ext.refl G w) hx'
      · rename_i vs ht
        have hd := h.fr d
        rw [ht] at hd
        simp only [Rep] at hd
        obtain ⟨us, _, hd⟩ := hd
        have hyd : yielded ops a.tmps j = none := by
          have : a.tmps[d]? = none ∨ a.tmps[d]? = some (.tuple us.toArray) := by
            rcases Nat.lt_or_ge d a.tmps.size with h' | h'
            · right; simp [h'] at hd ⊢; exact hd
            · left; exact Array.getElem?_eq_none h'
          rcases this with this | this <;> simp [yielded, gj, this]
        rw [if_neg (by simp [Region.wanted, g1, hyd])]
        refine ⟨fun _ _ => trivial, ?_⟩
        obtain ⟨rfl, rfl⟩ := hy
        rw [app_none ha] at hx'
        exact go undef (.tup []) s G w hA (rep_undef G) h.st (Ext.refl G w) hx'
      · exact hy.elim

theorem loud_sound {al : List AOp} {nq : Nat} {Q : Exit → Act → World → Prop} (hd : drawOk ops al nq = true) : ∀ (m k : Nat) (a : Act) (w : World), k + m = ops.size → nq ≤ k → wpListIn (fen ro) 0 P ops Q (ops.toList.drop k) a w → wpAnyIn (fen ro) 0 P .any ops Q m (listedN ops.size k) a w := by
  simp only [drawOk, Bool.and_eq_true, decide_eq_true_eq, List.all_eq_true, List.mem_range, Bool.or_eq_true, beq_iff_eq, List.isEmpty_iff] at hd
  obtain ⟨⟨⟨⟨⟨d1, d2⟩, d3⟩, d4⟩, d5⟩, d6⟩ := hd
  intro m
  induction m with
  | zero =>
    intro k a w hk hn h
    have : k = ops.size := by omega
    subst this
    rw [List.drop_of_length_le (by simp)] at h
    exact ⟨d6, h⟩
  | succ m ih =>
    intro k a w hk hn h
    have hr : Region.ready .any ops (listedN ops.size k) = [k] := (d5 k (by omega)).resolve_left (by omega)
    refine ⟨fun e => (by rw [hr] at e; cases e), fun i hi => ?_⟩
    rw [hr, List.mem_singleton] at hi
    subst hi
    have hlt : i < ops.size := by omega
    have ho : ops[i]? = some ops[i] := by simp [hlt]
    rw [List.drop_eq_getElem_cons (by simpa using hlt)] at h
    unfold wpOpIn
    rw [ho]
    simp only []
    unfold wpListIn at h
    simp only [Array.getElem_toList] at h
    split
    · rename_i hw
      rw [if_pos hw] at h
      exact Oper.wpIn_mono (fun a w h => ih (i + 1) a w (by omega) (by omega) h) h
    · rename_i hw
      rw [if_neg hw] at h
      exact ⟨h.1, ih (i + 1) _ w (by omega) (by omega) h.2⟩

theorem quietN_le (b : Bool) : ∀ (al : List AOp), quietN b al ≤ al.length
  | [] => by simp [quietN]
  | o :: l => by
    have := quietN_le b l
    rw [quietN]
    generalize (o.quiet && _) = c
    cases c
    · simp
    · simp only [if_true, List.length_cons]; omega

theorem quietC_le : ∀ (al : List AOp), quietC al ≤ al.length
  | [] => by simp [quietC]
  | o :: l => by
    have := quietC_le l
    rw [quietC]
    generalize (o.quiet && _) = c
    cases c
    · simp
    · simp only [if_true, List.length_cons]; omega

theorem mapM_drop {α β : Type} {f : α → Option β} : ∀ {l : List α} {l' : List β} (n : Nat), l.mapM f = some l' → (l.drop n).mapM f = some (l'.drop n)
  | l, l', 0, h => by simpa using h
  | [], l', n + 1, h => by simp at h; subst h; simp
  | x :: l, l', n + 1, h => by
    simp only [List.mapM_cons, Option.bind_eq_bind, Option.bind_eq_some_iff, Option.pure_def, Option.some.injEq] at h
    obtain ⟨y, hy, ys, hys, rfl⟩ := h
    simpa using mapM_drop n hys

def nBorn : List AOp → Nat
  | [] => 0
  | o :: l => bornN o + nBorn l

theorem mask_agree : ∀ (l : List AV) (st s : Store), Agree st s → Agree (maskS l st) s
  | [], st, s, h => h
  | v :: l, st, s, hA => by
    cases v
    case ptr id off =>
      simp only [maskS]
      split
      · rename_i hal
        refine mask_agree l _ s ⟨fun i o hi hl => ?_, fun i hi => ?_⟩
        · by_cases e : id = i
          · subst e
            rw [List.getElem?_set] at hi
            simp only [if_true] at hi
            split at hi
            · cases hi; cases hl
            · cases hi
          · rw [List.getElem?_set_ne e] at hi; exact hA.l i o hi hl
        · by_cases e : id = i
          · subst e
            unfold aliveC at hal
            split at hal
            · rename_i cs hc; exact ⟨cs, hA.l _ _ hc rfl⟩
            · cases hal
          · rw [List.getElem?_set_ne e] at hi; exact hA.hid i hi
      · exact mask_agree l st s hA
    all_goals exact mask_agree l st s hA

theorem draw_any {al : List AOp} {nq : Nat} (sas : List AX) (hnq : nq ≤ al.length) {G : Gh} {tm : Fr} {st : Store} {a : Act} {w : World} {K : Fr → Store → Prop} {Q : Exit → Act → World → Prop} (hal : ops.toList.mapM (compOp P N mu ops) = some al) (hd : drawOk ops al nq = true)
    (h : Rel B N E G tm st a w) (hx : lexQ P E (maskS (sas.map tm.x) st) (mapRk al) (al.take nq) 0 (fun tm' s => xOps P E (al.drop nq) K tm' s) tm (st ++ List.replicate (nBorn (al.take nq)) .unborn))
    (hq : ∀ G' tm' st' a' w', Rel B N E G' tm' st' a' w' → Ext G w G' w' → K tm' st' → Q .normal a' w') : wpAnyIn (fen ro) 0 P .any ops Q ops.size (Array.replicate ops.size false) a { w with drawn := w.drawn + 1 } := by
  have hd' := hd
  simp only [drawOk, Bool.and_eq_true, decide_eq_true_eq] at hd'
  obtain ⟨⟨⟨⟨⟨d1, d2⟩, _⟩, _⟩, _⟩, _⟩ := hd'
  have hcl : Closed ops (listedN ops.size 0) := fun x o _ hx => by
    exfalso
    simp only [listedN] at hx
    rcases Nat.lt_or_ge x ops.size with h' | h'
    · simp [h'] at hx
    · rw [Array.getD_eq_getD_getElem?, Array.getElem?_eq_none (by simpa using h')] at hx; simp at hx
  have hany : anyQ P E ops (maskS (sas.map tm.x) st) al nq (fun tm' s => xOps P E (al.drop nq) K tm' s) (al.take nq).length (listedN ops.size 0) tm (st ++ List.replicate (nBorn (al.take nq)) .unborn) := by
    refine anyQ_lex hd (al.take nq) 0 tm _ (fun j => ?_) (by simp; omega) hcl ?_
    · rw [List.getElem?_take]; simp only [Nat.zero_add]
    · have : rkL al 0 = 0 := by cases al <;> rfl
      rw [this]; exact hx
  have hlen : (al.take nq).length = nq := by simp; omega
  rw [hlen] at hany
  obtain ⟨G1, hs1, hext1⟩ := push_unborns (nBorn (al.take nq)) (h.st.drew (w.drawn + 1))
  have hrel : Rel B N E G1 tm (st ++ List.replicate (nBorn (al.take nq)) .unborn) a { w with drawn := w.drawn + 1 } := ⟨h.size, h.defers.ext (((Ext.refl G w).drew (w.drawn + 1)).trans hext1), h.fr.mono hext1.g, hs1⟩
  have hext0 : Ext G w G1 { w with drawn := w.drawn + 1 } := ((Ext.refl G w).drew (w.drawn + 1)).trans hext1
  have hA : Agree (maskS (sas.map tm.x) st) (st ++ List.replicate (nBorn (al.take nq)) .unborn) := by
    refine mask_agree _ _ _ ⟨fun i o hi _ => ?_, fun i hi => ?_⟩
    · rw [List.getElem?_append_left (lt_of_getElem? hi)]; exact hi
    · exfalso
      have hil : i < G.slots.length := by rw [h.st.len]; exact lt_of_getElem? hi
      have := h.st.obj i _ G.slots[i] hi (by simp [hil])
      cases hs : G.slots[i] <;> rw [hs] at this <;> simp [ObjRel] at this
  have := any_sound (P := P) (E := E) (N := N) (ro := ro) (mu := mu) (m := ops.size - nq) (Q := Q) (G0 := G) (w0 := w) hal (K := fun tm' s => xOps P E (al.drop nq) K tm' s) (fun G' tm' s' a' w' hr he hk =>
    loud_sound hd _ nq a' w' (by omega) (Nat.le_refl _) (xOps_sound (K := K) (ops.toList.drop nq) (al.drop nq) (mapM_drop nq hal) hr hk fun G'' tm'' st'' a'' w'' q1 q2 q3 => hq _ _ _ _ _ q1 (he.trans q2) q3)) nq (listedN ops.size 0) tm _ G1 a _ hrel hA hext0 hany
  rw [show nq + (ops.size - nq) = ops.size by omega] at this
  exact this

theorem draw_sound {id : Nat} {al : List AOp} {nq : Nat} (sas : List AX) (hnq : nq ≤ al.length) {G : Gh} {tm : Fr} {st : Store} {a : Act} {w : World} {K : Fr → Store → Prop} {Q : Exit → Act → World → Prop} (hm : P.follows .mixedOrders = true) (hal : ops.toList.mapM (compOp P N mu ops) = some al) (hd : drawOk ops al nq = true)
    (h : Rel B N E G tm st a w) (hx : lexQ P E (maskS (sas.map tm.x) st) (mapRk al) (al.take nq) 0 (fun tm' s => xOps P E (al.drop nq) K tm' s) tm (st ++ List.replicate (nBorn (al.take nq)) .unborn))
    (hq : ∀ G' tm' st' a' w', Rel B N E G' tm' st' a' w' → Ext G w G' w' → K tm' st' → Q .normal a' w') : (Code.region id ops true).wpIn (fen ro) 0 P Q a w :=
  wpIn_region_any hm (draw_any sas hnq hal hd h hx hq)
end
end Go.Proofs.YtcidnoghoifmmaaDoor.AW
