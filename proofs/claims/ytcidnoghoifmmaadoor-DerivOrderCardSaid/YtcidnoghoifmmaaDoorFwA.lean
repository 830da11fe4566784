/-
  The words of the abstract walk: values as plain data, what they stand for in memory, and how memory may turn. Nothing of the program stands here.
-/
import Derived.Tactics
import Derived.Orders
import Derived.Below
import Derived.Laws.IdiomCopy
namespace Go.Proofs.YtcidnoghoifmmaaDoor.AW
open Go

inductive AV where
  | int (k : IntKind) (n : Int)
  | bool (b : Bool)
  | str (s : List UInt8)
  | agg (cs : List AV)
  | tup (vs : List AV)
  | ptr (id off : Nat)
  | dptr (cs : List AV)
  | gptr (g off : Nat)
  | nilptr
  | sl (es : Nat) (xs : List AV) (tok : Option Nat)
  | nils
  | row (id es off len : Nat)
  | fn (f : FuncId) (caps : List AV)
  | nilfn
  | mp (id : Nat)
  | nilmp
  | nilif
  | nilB (id T n : Nat)
  | yld (id : Nat)
  deriving Inhabited

inductive Slot where
  | box (b : Nat)
  | tail (b lo hi n : Nat)
  | mapo (b : Nat)
  | dead
  | unborn
  deriving Inhabited

def Slot.blk : Slot → Option Nat
  | .box b => some b
  | .tail b _ _ _ => some b
  | .mapo b => some b
  | .dead => none
  | .unborn => none

structure Gh where
  slots : List Slot
  M : Nat → Nat → Option Value
  sh : Nat → Option (Nat × Nat) := fun _ => none

inductive Key where
  | s (l : List UInt8)
  | i (n : Int)
  deriving DecidableEq, Inhabited

inductive AObj where
  | cells (cs : List AV)
  | tail (n : Nat) (t : Option Nat := none)
  | map (kd : Option IntKind) (f : Key → Option AV) (n : Nat)
  | loop (N : Nat) (ps : List Nat) (assign body : Code) (tm : Nat → AV) (s : LoopState) (p : Option Code)
  | dead
  | unborn
  | hid
  | sldo (l : List UInt8) (t : Nat)
  | lost
  deriving Inhabited

abbrev Store := List AObj
abbrev Fr := Nat → AV

def AV.cells : AV → List AV
  | .agg cs => cs
  | v => [v]

def TokOk (G : Gh) (es n b o c : Nat) : Option Nat → Prop
  | none => True
  | some id => match G.slots[id]? with
    | some (.tail b' lo hi m) => n ≤ m ∧ (n = m → b' = b ∧ lo = o + n * es ∧ hi = o + c * es ∧ o = 0)
    | some .unborn => False
    | some _ => True
    | none => False

mutual
def Rep (G : Gh) : AV → Value → Prop
  | .int k n, u => u = .int k n
  | .bool b, u => u = .bool b
  | .str s, u => ∃ b : ByteArray, b.data.toList = s ∧ u = .string b
  | .agg cs, u => ∃ us : List Value, RepL G cs us ∧ u = .agg us.toArray
  | .tup cs, u => ∃ us : List Value, RepL G cs us ∧ u = .tuple us.toArray
  | .ptr id off, u => match G.slots[id]? with
    | some (.box b) => u = .pointer (some ⟨b, off, none⟩)
    | some .dead => ∃ a, u = .pointer a
    | _ => False
  | .dptr cs, u => ∃ (b o : Nat) (us : List Value), RepL G cs us ∧ (∀ j v, us[j]? = some v → G.M b (o + j) = some v) ∧ u = .pointer (some ⟨b, o, none⟩)
  | .gptr g off, u => u = .pointer (some ⟨g, off, none⟩)
  | .nilptr, u => u = .pointer none
  | .sl es xs tok, u => ∃ b o c, RepS G es b o xs ∧ xs.length ≤ c ∧ TokOk G es xs.length b o c tok ∧ ∃ sp : Option Nat, (sp = none ∨ c = 0 ∧ tok = none) ∧ u = .slice (some ⟨b, o, sp⟩) xs.length c
  | .nils, u => u = .slice none 0 0
  | .row id es off len, u => match G.slots[id]? with
    | some (.box b) => ∃ c e n, len ≤ c ∧ G.sh b = some (e, n) ∧ (off + c) * es ≤ n ∧ u = .slice (some ⟨b, off * es, none⟩) len c
    | some .dead => ∃ a l c, u = .slice a l c
    | _ => False
  | .fn f caps, u => ∃ us : List Value, RepL G caps us ∧ u = .func (.func f) #[] us.toArray
  | .nilfn, u => u = .nilFunc
  | .mp id, u => match G.slots[id]? with
    | some (.mapo b) => u = .map (some b)
    | some .dead => ∃ a, u = .map a
    | _ => False
  | .nilmp, u => u = .map none
  | .nilif, u => u = .nilIface
  | .nilB id T n, u => u = .pointer none ∧ (match G.slots[id]? with
    | some (.box b) => G.sh b = some (T, n)
    | some .dead => True
    | _ => False)
  | .yld id, u => match G.slots[id]? with
    | some (.box b) => u = .func (.yield b) #[] #[]
    | some .dead => ∃ b, u = .func (.yield b) #[] #[]
    | _ => False
def RepL (G : Gh) : List AV → List Value → Prop
  | [], us => us = []
  | v :: vs, us => ∃ u us', us = u :: us' ∧ Rep G v u ∧ RepL G vs us'
def RepS (G : Gh) (es b o : Nat) : List AV → Prop
  | [] => True
  | v :: vs => (∃ u : Value, Rep G v u ∧ u.cells.size = es ∧ ∀ j x, u.cells[j]? = some x → G.M b (o + j) = some x) ∧ RepS G es b (o + es) vs
end

theorem repL_length {G : Gh} : ∀ {vs : List AV} {us : List Value}, RepL G vs us → us.length = vs.length
  | [], us, h => by simp [RepL] at h; simp [h]
  | v :: vs, us, h => by
    simp only [RepL] at h
    obtain ⟨u, us', rfl, _, h⟩ := h
    simp [repL_length h]

theorem repL_get {G : Gh} : ∀ {vs : List AV} {us : List Value}, RepL G vs us → ∀ (i : Nat) (v : AV), vs[i]? = some v → ∃ u, us[i]? = some u ∧ Rep G v u
  | [], us, h, i, v, hv => by simp at hv
  | v :: vs, us, h, 0, v', hv => by
    simp only [RepL] at h
    obtain ⟨u, us', rfl, hr, h⟩ := h
    simp at hv; subst hv
    exact ⟨u, rfl, hr⟩
  | v :: vs, us, h, i + 1, v', hv => by
    simp only [RepL] at h
    obtain ⟨u, us', rfl, hr, h⟩ := h
    simp at hv
    simpa using repL_get h i v' hv

theorem repL_of {G : Gh} : ∀ {vs : List AV} {us : List Value}, us.length = vs.length → (∀ (i : Nat) v u, vs[i]? = some v → us[i]? = some u → Rep G v u) → RepL G vs us
  | [], us, h, _ => by simp [RepL]; exact List.eq_nil_of_length_eq_zero (by simpa using h)
  | v :: vs, [], h, _ => by simp at h
  | v :: vs, u :: us, h, hr => by
    simp only [RepL]
    exact ⟨u, us, rfl, hr 0 v u rfl rfl, repL_of (by simpa using h) fun i v' u' hv hu => hr (i + 1) v' u' (by simpa using hv) (by simpa using hu)⟩

theorem repL_append {G : Gh} : ∀ {vs ws : List AV} {us xs : List Value}, RepL G vs us → RepL G ws xs → RepL G (vs ++ ws) (us ++ xs)
  | [], ws, us, xs, h, h' => by simp only [RepL] at h; subst h; simpa using h'
  | v :: vs, ws, us, xs, h, h' => by
    simp only [RepL] at h
    obtain ⟨u, us', rfl, hr, h⟩ := h
    simp only [List.cons_append, RepL]
    exact ⟨u, us' ++ xs, rfl, hr, repL_append h h'⟩

theorem repL_take {G : Gh} {vs : List AV} {us : List Value} (n : Nat) (h : RepL G vs us) : RepL G (vs.take n) (us.take n) := by
  refine repL_of (by simp [repL_length h]) fun i v u hv hu => ?_
  rw [List.getElem?_take] at hv hu
  split at hv
  · rename_i hi
    rw [if_pos hi] at hu
    obtain ⟨u', hu', hr⟩ := repL_get h i v hv
    rw [hu'] at hu; cases hu; exact hr
  · cases hv

theorem repL_drop {G : Gh} {vs : List AV} {us : List Value} (n : Nat) (h : RepL G vs us) : RepL G (vs.drop n) (us.drop n) := by
  refine repL_of (by simp [repL_length h]) fun i v u hv hu => ?_
  rw [List.getElem?_drop] at hv hu
  obtain ⟨u', hu', hr⟩ := repL_get h _ v hv
  rw [hu'] at hu; cases hu; exact hr

theorem repL_set {G : Gh} {vs : List AV} {us : List Value} (n : Nat) {v : AV} {u : Value} (h : RepL G vs us) (hr : Rep G v u) : RepL G (vs.set n v) (us.set n u) := by
  refine repL_of (by simp [repL_length h]) fun i v' u' hv hu => ?_
  rw [List.getElem?_set] at hv hu
  split at hv
  · rename_i hi
    rw [if_pos hi, repL_length h] at hu
    split at hv
    · rename_i hl; rw [if_pos hl] at hu; cases hv; cases hu; exact hr
    · cases hv
  · rename_i hi
    rw [if_neg hi] at hu
    obtain ⟨u'', hu'', hr'⟩ := repL_get h i v' hv
    rw [hu''] at hu; cases hu; exact hr'

theorem rep_one {G : Gh} {v : AV} {u : Value} (h : Rep G v u) (hv : ∀ cs, v ≠ .agg cs) : u.cells = #[u] := by
  cases v
  case agg cs => exact absurd rfl (hv cs)
  case ptr id off =>
    simp only [Rep] at h
    split at h
    · subst h; rfl
    · obtain ⟨a, rfl⟩ := h; rfl
    · exact h.elim
  case row id es off len =>
    simp only [Rep] at h
    split at h
    · obtain ⟨c, _, _, _, _, _, rfl⟩ := h; rfl
    · obtain ⟨a, l, c, rfl⟩ := h; rfl
    · exact h.elim
  case mp id =>
    simp only [Rep] at h
    split at h
    · subst h; rfl
    · obtain ⟨a, rfl⟩ := h; rfl
    · exact h.elim
  case nilB id T n =>
    simp only [Rep] at h
    obtain ⟨rfl, _⟩ := h; rfl
  case yld id =>
    simp only [Rep] at h
    split at h
    · subst h; rfl
    · obtain ⟨a, rfl⟩ := h; rfl
    · exact h.elim
  all_goals
    simp only [Rep] at h
    first
      | (subst h; rfl)
      | (obtain ⟨_, _, rfl⟩ := h; rfl)
      | (obtain ⟨_, _, _, _, _, rfl⟩ := h; rfl)
      | (obtain ⟨_, _, _, _, _, _, _, _, rfl⟩ := h; rfl)
      | (obtain ⟨_, _, _, _, _, _, rfl⟩ := h; rfl)

theorem rep_cells {G : Gh} {v : AV} {u : Value} (h : Rep G v u) : RepL G v.cells u.cells.toList := by
  by_cases hv : ∃ cs, v = .agg cs
  · obtain ⟨cs, rfl⟩ := hv
    simp only [Rep] at h
    obtain ⟨us, h, rfl⟩ := h
    simpa [AV.cells, Value.cells] using h
  · have hv' : ∀ cs, v ≠ .agg cs := fun cs e => hv ⟨cs, e⟩
    rw [rep_one h hv']
    have : v.cells = [v] := by cases v <;> first | rfl | exact absurd rfl (hv' _)
    rw [this]
    simp only [RepL]
    exact ⟨u, [], rfl, h, rfl⟩

structure GExt (G G' : Gh) : Prop where
  sh : ∀ b x, G.sh b = some x → G'.sh b = some x
  M : ∀ b o u, G.M b o = some u → G'.M b o = some u
  len : G.slots.length ≤ G'.slots.length
  box : ∀ (i b : Nat), G.slots[i]? = some (Slot.box b) → G'.slots[i]? = some (Slot.box b) ∨ G'.slots[i]? = some Slot.dead
  mapo : ∀ (i b : Nat), G.slots[i]? = some (Slot.mapo b) → G'.slots[i]? = some (Slot.mapo b) ∨ G'.slots[i]? = some Slot.dead
  dead : ∀ (i : Nat), G.slots[i]? = some Slot.dead → G'.slots[i]? = some Slot.dead
  tail : ∀ (i b lo hi n : Nat), G.slots[i]? = some (Slot.tail b lo hi n) → G'.slots[i]? = some Slot.dead ∨ ∃ b' lo' hi' n', G'.slots[i]? = some (Slot.tail b' lo' hi' n') ∧ n ≤ n' ∧ (n = n' → b' = b ∧ lo' = lo ∧ hi' = hi)

theorem GExt.refl (G : Gh) : GExt G G :=
  ⟨fun _ _ h => h, fun _ _ _ h => h, Nat.le_refl _, fun _ _ h => .inl h, fun _ _ h => .inl h, fun _ h => h, fun _ b lo hi n h => .inr ⟨b, lo, hi, n, h, Nat.le_refl _, fun _ => ⟨rfl, rfl, rfl⟩⟩⟩

theorem GExt.trans {A B C : Gh} (h : GExt A B) (k : GExt B C) : GExt A C where
  sh b x hx := k.sh b x (h.sh b x hx)
  M b o u hu := k.M b o u (h.M b o u hu)
  len := Nat.le_trans h.len k.len
  box i b hb := by
    rcases h.box i b hb with h' | h'
    · exact k.box i b h'
    · exact .inr (k.dead i h')
  mapo i b hb := by
    rcases h.mapo i b hb with h' | h'
    · exact k.mapo i b h'
    · exact .inr (k.dead i h')
  dead i hd := k.dead i (h.dead i hd)
  tail i b lo hi n ht := by
    rcases h.tail i b lo hi n ht with h' | ⟨b', lo', hi', n', h', hn, he⟩
    · exact .inl (k.dead i h')
    · rcases k.tail i b' lo' hi' n' h' with k' | ⟨b'', lo'', hi'', n'', k', kn, ke⟩
      · exact .inl k'
      · refine .inr ⟨b'', lo'', hi'', n'', k', Nat.le_trans hn kn, fun e => ?_⟩
        have e1 : n = n' := by omega
        have e2 : n' = n'' := by omega
        obtain ⟨a, b, c⟩ := he e1
        obtain ⟨a', b', c'⟩ := ke e2
        exact ⟨a'.trans a, b'.trans b, c'.trans c⟩

theorem TokOk.mono {G G' : Gh} (hg : GExt G G') {es n b o c : Nat} {tok : Option Nat} (h : TokOk G es n b o c tok) : TokOk G' es n b o c tok := by
  cases tok with
  | none => trivial
  | some id =>
    simp only [TokOk] at h ⊢
    have hid : id < G.slots.length := by
      rcases Nat.lt_or_ge id G.slots.length with h' | h'
      · exact h'
      · rw [List.getElem?_eq_none h'] at h; exact h.elim
    have hs : G.slots[id]? = some (G.slots[id]) := by simp
    generalize G.slots[id] = s at hs
    rw [hs] at h
    cases s with
    | box b' => rcases hg.box id b' hs with h' | h' <;> simp [h']
    | mapo b' => rcases hg.mapo id b' hs with h' | h' <;> simp [h']
    | dead => simp [hg.dead id hs]
    | unborn => exact h.elim
    | tail b' lo hi m =>
      simp only at h
      rcases hg.tail id b' lo hi m hs with h' | ⟨b'', lo', hi', n', h', hn, he⟩
      · simp [h']
      · rw [h']
        simp only
        refine ⟨by omega, fun e => ?_⟩
        obtain ⟨a, b, c⟩ := he (by omega)
        obtain ⟨a', b', c', d'⟩ := h.2 (by omega)
        exact ⟨a.trans a', b.trans b', c.trans c', d'⟩

mutual
theorem Rep.mono {G G' : Gh} (hg : GExt G G') : ∀ {v : AV} {u : Value}, Rep G v u → Rep G' v u
  | .int _ _, _, h => by simpa only [Rep] using h
  | .bool _, _, h => by simpa only [Rep] using h
  | .str _, _, h => by simpa only [Rep] using h
  | .agg cs, _, h => by
    simp only [Rep] at h ⊢
    obtain ⟨us, h, e⟩ := h
    exact ⟨us, RepL.mono hg h, e⟩
  | .tup cs, _, h => by
    simp only [Rep] at h ⊢
    obtain ⟨us, h, e⟩ := h
    exact ⟨us, RepL.mono hg h, e⟩
  | .ptr id off, u, h => by
    simp only [Rep] at h ⊢
    split at h
    · rename_i b hb
      rcases hg.box id b hb with h' | h' <;> rw [h']
      · exact h
      · exact ⟨_, h⟩
    · rename_i hb; rw [hg.dead id hb]; exact h
    · exact h.elim
  | .dptr cs, u, h => by
    simp only [Rep] at h ⊢
    obtain ⟨b, o, us, h, hm, e⟩ := h
    exact ⟨b, o, us, RepL.mono hg h, fun j v hv => hg.M _ _ _ (hm j v hv), e⟩
  | .gptr _ _, _, h => by simpa only [Rep] using h
  | .nilptr, _, h => by simpa only [Rep] using h
  | .sl es xs tok, u, h => by
    simp only [Rep] at h ⊢
    obtain ⟨b, o, c, h, hl, ht, e⟩ := h
    exact ⟨b, o, c, RepS.mono hg h, hl, ht.mono hg, e⟩
  | .nils, _, h => by simpa only [Rep] using h
  | .row id es off len, u, h => by
    simp only [Rep] at h ⊢
    split at h
    · rename_i b hb
      rcases hg.box id b hb with h' | h' <;> rw [h']
      · obtain ⟨c, e, n, h1, h2, h3, h4⟩ := h
        exact ⟨c, e, n, h1, hg.sh _ _ h2, h3, h4⟩
      · obtain ⟨c, e, n, _, _, _, h⟩ := h; exact ⟨_, _, _, h⟩
    · rename_i hb; rw [hg.dead id hb]; exact h
    · exact h.elim
  | .fn f caps, u, h => by
    simp only [Rep] at h ⊢
    obtain ⟨us, h, e⟩ := h
    exact ⟨us, RepL.mono hg h, e⟩
  | .nilfn, _, h => by simpa only [Rep] using h
  | .mp id, u, h => by
    simp only [Rep] at h ⊢
    split at h
    · rename_i b hb
      rcases hg.mapo id b hb with h' | h' <;> rw [h']
      · exact h
      · exact ⟨_, h⟩
    · rename_i hb; rw [hg.dead id hb]; exact h
    · exact h.elim
  | .nilmp, _, h => by simpa only [Rep] using h
  | .nilif, _, h => by simpa only [Rep] using h
  | .nilB id T n, u, h => by
    simp only [Rep] at h ⊢
    obtain ⟨h1, h2⟩ := h
    refine ⟨h1, ?_⟩
    split at h2
    · rename_i b hb
      rcases hg.box id b hb with h' | h' <;> rw [h']
      · exact hg.sh _ _ h2
      · trivial
    · rename_i hb; rw [hg.dead id hb]; trivial
    · exact h2.elim
  | .yld id, u, h => by
    simp only [Rep] at h ⊢
    split at h
    · rename_i b hb
      rcases hg.box id b hb with h' | h' <;> rw [h']
      · exact h
      · exact ⟨_, h⟩
    · rename_i hb; rw [hg.dead id hb]; exact h
    · exact h.elim
theorem RepL.mono {G G' : Gh} (hg : GExt G G') : ∀ {vs : List AV} {us : List Value}, RepL G vs us → RepL G' vs us
  | [], _, h => by simpa only [RepL] using h
  | v :: vs, us, h => by
    simp only [RepL] at h ⊢
    obtain ⟨u, us', e, hr, h⟩ := h
    exact ⟨u, us', e, Rep.mono hg hr, RepL.mono hg h⟩
theorem RepS.mono {G G' : Gh} (hg : GExt G G') {es b : Nat} : ∀ {o : Nat} {xs : List AV}, RepS G es b o xs → RepS G' es b o xs
  | _, [], _ => by simp only [RepS]
  | o, v :: vs, h => by
    simp only [RepS] at h ⊢
    obtain ⟨⟨u, hr, hs, hm⟩, h⟩ := h
    exact ⟨⟨u, Rep.mono hg hr, hs, fun j x hx => hg.M _ _ _ (hm j x hx)⟩, RepS.mono hg h⟩
end
end Go.Proofs.YtcidnoghoifmmaaDoor.AW
