/-
  The abstract walk: values that hold no objects; calls that are handed such alone.
-/
import Derived.Test.YtjbafmnocopofaaFwP
namespace Go.Proofs.Ytjbafmnocopofaa.AW
open Go

mutual
/-- No object is reached from here. -/
def AV.data : AV → Bool
  | .agg cs => AV.dataL cs
  | .tup cs => AV.dataL cs
  | .dptr cs => AV.dataL cs
  | .sl _ xs _ => AV.dataL xs
  | .fn _ caps => AV.dataL caps
  | .ptr _ _ => false
  | .row _ _ _ _ => false
  | .mp _ => false
  | .int _ _ => true
  | .bool _ => true
  | .str _ => true
  | .gptr _ _ => true
  | .nilptr => true
  | .nils => true
  | .nilfn => true
  | .nilmp => true
  | .nilif => true
  | .nilB _ _ _ => false
  | .yld _ => false
def AV.dataL : List AV → Bool
  | [] => true
  | v :: vs => AV.data v && AV.dataL vs
end

mutual
/-- The same, no longer to be appended to. -/
def AV.strip : AV → AV
  | .agg cs => .agg (AV.stripL cs)
  | .tup cs => .tup (AV.stripL cs)
  | .dptr cs => .dptr (AV.stripL cs)
  | .sl es xs _ => .sl es (AV.stripL xs) none
  | .fn f caps => .fn f (AV.stripL caps)
  | .ptr i o => .ptr i o
  | .row i e o l => .row i e o l
  | .mp i => .mp i
  | .int k n => .int k n
  | .bool b => .bool b
  | .str s => .str s
  | .gptr g o => .gptr g o
  | .nilptr => .nilptr
  | .nils => .nils
  | .nilfn => .nilfn
  | .nilmp => .nilmp
  | .nilif => .nilif
  | .nilB i T n => .nilB i T n
  | .yld i => .yld i
def AV.stripL : List AV → List AV
  | [] => []
  | v :: vs => AV.strip v :: AV.stripL vs
end

theorem stripL_length : ∀ vs : List AV, (AV.stripL vs).length = vs.length
  | [] => rfl
  | v :: vs => by simp [AV.stripL, stripL_length vs]

mutual
theorem strip_rep {G G' : Gh} (hM : ∀ b o u, G.M b o = some u → G'.M b o = some u) : ∀ {v : AV} {u : Value}, v.data = true → Rep G v u → Rep G' v.strip u
  | .agg cs, u, hd, h => by
    simp only [AV.data] at hd
    simp only [Rep, AV.strip] at h ⊢
    obtain ⟨us, h, e⟩ := h
    exact ⟨us, stripL_rep hM hd h, e⟩
  | .tup cs, u, hd, h => by
    simp only [AV.data] at hd
    simp only [Rep, AV.strip] at h ⊢
    obtain ⟨us, h, e⟩ := h
    exact ⟨us, stripL_rep hM hd h, e⟩
  | .dptr cs, u, hd, h => by
    simp only [AV.data] at hd
    simp only [Rep, AV.strip] at h ⊢
    obtain ⟨b, o, us, h, hm, e⟩ := h
    exact ⟨b, o, us, stripL_rep hM hd h, fun j v hv => hM _ _ _ (hm j v hv), e⟩
  | .sl es xs tok, u, hd, h => by
    simp only [AV.data] at hd
    simp only [Rep, AV.strip] at h ⊢
    obtain ⟨b, o, c, h, hl, _, sp, hsp, e⟩ := h
    exact ⟨b, o, c, stripS_rep hM hd h, by rw [stripL_length]; exact hl, trivial, sp, hsp.imp_right fun h => ⟨h.1, trivial⟩, by rw [stripL_length]; exact e⟩
  | .fn f caps, u, hd, h => by
    simp only [AV.data] at hd
    simp only [Rep, AV.strip] at h ⊢
    obtain ⟨us, h, e⟩ := h
    exact ⟨us, stripL_rep hM hd h, e⟩
  | .ptr _ _, _, hd, _ => by simp [AV.data] at hd
  | .row _ _ _ _, _, hd, _ => by simp [AV.data] at hd
  | .mp _, _, hd, _ => by simp [AV.data] at hd
  | .nilB _ _ _, _, hd, _ => by simp [AV.data] at hd
  | .yld _, _, hd, _ => by simp [AV.data] at hd
  | .int _ _, _, _, h => by simpa only [Rep, AV.strip] using h
  | .bool _, _, _, h => by simpa only [Rep, AV.strip] using h
  | .str _, _, _, h => by simpa only [Rep, AV.strip] using h
  | .gptr _ _, _, _, h => by simpa only [Rep, AV.strip] using h
  | .nilptr, _, _, h => by simpa only [Rep, AV.strip] using h
  | .nils, _, _, h => by simpa only [Rep, AV.strip] using h
  | .nilfn, _, _, h => by simpa only [Rep, AV.strip] using h
  | .nilmp, _, _, h => by simpa only [Rep, AV.strip] using h
  | .nilif, _, _, h => by simpa only [Rep, AV.strip] using h
theorem stripL_rep {G G' : Gh} (hM : ∀ b o u, G.M b o = some u → G'.M b o = some u) : ∀ {vs : List AV} {us : List Value}, AV.dataL vs = true → RepL G vs us → RepL G' (AV.stripL vs) us
  | [], us, _, h => by simpa only [RepL, AV.stripL] using h
  | v :: vs, us, hd, h => by
    simp only [AV.dataL, Bool.and_eq_true] at hd
    simp only [RepL, AV.stripL] at h ⊢
    obtain ⟨u, us', e, hr, h⟩ := h
    exact ⟨u, us', e, strip_rep hM hd.1 hr, stripL_rep hM hd.2 h⟩
theorem stripS_rep {G G' : Gh} (hM : ∀ b o u, G.M b o = some u → G'.M b o = some u) {es b : Nat} : ∀ {o : Nat} {xs : List AV}, AV.dataL xs = true → RepS G es b o xs → RepS G' es b o (AV.stripL xs)
  | _, [], _, _ => by simp only [RepS, AV.stripL]
  | o, v :: vs, hd, h => by
    simp only [AV.dataL, Bool.and_eq_true] at hd
    simp only [RepS, AV.stripL] at h ⊢
    obtain ⟨⟨u, hr, hs, hm⟩, h⟩ := h
    exact ⟨⟨u, strip_rep hM hd.1 hr, hs, fun j x hx => hM _ _ _ (hm j x hx)⟩, stripS_rep hM hd.2 h⟩
end

/-- A call that is handed no object, and hands back none. -/
def DCall (P : Program) (E : Glob) (f : FuncId) (ds : List AV) (K : AV → Prop) : Prop :=
  XCall P E f ds [] fun r _ => r.data = true ∧ K r.strip

theorem DCall.mono {P : Program} {E : Glob} {f : FuncId} {ds : List AV} {K K' : AV → Prop} (h : DCall P E f ds K) (hk : ∀ r, K r → K' r) : DCall P E f ds K' :=
  XCall.mono h fun _ _ ⟨h1, h2⟩ => ⟨h1, hk _ h2⟩

/-- IT SERVES WHEREVER IT IS CALLED. -/
theorem xcall_data {P : Program} {E : Glob} {f : FuncId} {ds : List AV} {st : Store} {K : AV → Store → Prop} (h : DCall P E f (AV.stripL ds) fun r => K r st) (hd : AV.dataL ds = true) : XCall P E f ds st K := by
  intro G w vs hr hs
  have hs0 : StoreRel E { slots := [], M := G.M, sh := G.sh } [] w := ⟨rfl, fun i o s h => by simp at h, fun i j s t b _ h => by simp at h, hs.mem, hs.one, hs.shp, hs.glob⟩
  refine (h { slots := [], M := G.M, sh := G.sh } w vs (stripL_rep (G := G) (G' := { slots := [], M := G.M, sh := G.sh }) (fun _ _ _ h => h) hd hr) hs0).mono fun e w' ⟨u, r, st', G', he, hr', hs', hext, hdr, hk⟩ => ?_
  have hnoown : ∀ s ∈ ({ slots := [], M := G.M, sh := G.sh } : Gh).slots, ∀ b, s.blk ≠ some b := fun s h => by simp at h
  have hblk : ∀ b, b < w.heap.size → w'.heap[b]? = w.heap[b]? := fun b hb => hext.block b hb fun s h => by simp at h
  have hnewM : ∀ b o u, G'.M b o = some u → G.M b o = some u ∨ w.heap.size ≤ b := fun b o u hu => by
    rcases hext.newM b o u hu with h' | ⟨s, h', _⟩ | h'
    · exact .inl h'
    · simp at h'
    · exact .inr h'
  have hg : GExt G { slots := G.slots, M := G'.M, sh := G.sh } :=
    ⟨fun _ _ h => h, hext.g.M, Nat.le_refl _, fun i b h => .inl h, fun i b h => .inl h, fun i h => h, fun i b lo hi n h => .inr ⟨b, lo, hi, n, h, Nat.le_refl _, fun _ => ⟨rfl, rfl, rfl⟩⟩⟩
  refine ⟨u, r.strip, st, { slots := G.slots, M := G'.M, sh := G.sh }, he, strip_rep (G := G') (G' := { slots := G.slots, M := G'.M, sh := G.sh }) (fun _ _ _ h => h) hdr hr', ⟨hs.len, fun i o s ho hsl => ?_, hs.apart, hs'.mem, hs'.one, fun b e n hx => (by
      have hb := hs.shb hx
      obtain ⟨arr, fz, h1, h2⟩ := hs.shp b e n hx
      exact ⟨arr, fz, by rw [hblk b hb]; exact h1, h2⟩), hs.glob.mono hg⟩, ⟨hg, hext.os, hext.tape, hext.output, hext.size, fun b hb _ => hblk b hb, ?_, fun s hs b hb => .inl ⟨s, hs, hb⟩⟩, hk⟩
  · have ho' := hs.obj i o s ho hsl
    refine ho'.keep hg (fun b hb => hblk b (ho'.block hb)) fun b o u hb hu => ?_
    rcases hnewM b o u hu with h' | h'
    · exact h'
    · have := ho'.block hb; omega
  · intro b o u hu
    rcases hnewM b o u hu with h' | h'
    · exact .inl h'
    · exact .inr (.inr h')

/-- A call that is handed plain data and hands back just this. -/
def DFun (P : Program) (E : Glob) (f : FuncId) (ds : List AV) (r : AV) : Prop := DCall P E f ds fun x => x = r

theorem xcall_fun {P : Program} {E : Glob} {f : FuncId} {ds ds' : List AV} {r : AV} {st : Store} {K : AV → Store → Prop} (h : DFun P E f ds' r) (hd : AV.dataL ds = true) (he : AV.stripL ds = ds') (hk : K r st) : XCall P E f ds st K := by
  subst he
  exact xcall_data (DCall.mono (K' := fun r => K r st) h fun x e => by rw [e]; exact hk) hd

/-- What stands for itself, whatever memory holds. -/
def AV.flat : AV → Bool
  | .int _ _ => true
  | .bool _ => true
  | .str _ => true
  | _ => false
theorem flat_rep {G G' : Gh} {v : AV} {u : Value} (h : v.flat = true) (hr : Rep G v u) : Rep G' v u := by
  cases v <;> simp only [AV.flat] at h <;> first
    | (cases h; done)
    | simpa only [Rep] using hr
theorem flat_repL {G G' : Gh} : ∀ {vs : List AV} {us : List Value}, vs.all AV.flat = true → RepL G vs us → RepL G' vs us
  | [], us, _, h => by simpa only [RepL] using h
  | v :: vs, us, hf, h => by
    simp only [List.all_cons, Bool.and_eq_true] at hf
    simp only [RepL] at h ⊢
    obtain ⟨u, us', e, hr, h⟩ := h
    exact ⟨u, us', e, flat_rep hf.1 hr, flat_repL hf.2 h⟩
theorem repL_flatten {G : Gh} : ∀ {xs : List AV} {vs : List Value}, vs.length = xs.length → (∀ (i : Nat) x v, xs[i]? = some x → vs[i]? = some v → Rep G x v) → RepL G (xs.flatMap AV.cells) ((vs.map fun v => v.cells.toList).flatten)
  | [], [], _, _ => by simp [RepL]
  | [], _ :: _, h, _ => by simp at h
  | _ :: _, [], h, _ => by simp at h
  | x :: xs, v :: vs, h, hr => by
    simp only [List.flatMap_cons, List.map_cons, List.flatten_cons]
    exact repL_append (rep_cells (hr 0 x v rfl rfl)) (repL_flatten (by simpa using h) fun i x' v' hx hv => hr (i + 1) x' v' (by simpa using hx) (by simpa using hv))

/-- A call that is handed plain data and hands back a slice of its own: whoever calls it may write there. -/
theorem xcall_row {P : Program} {E : Glob} {f : FuncId} {ds : List AV} {st : Store} {es : Nat} {xs : List AV} (h : XCall P E f (AV.stripL ds) [] fun r st' => ∃ id, r = .sl es xs (some id) ∧ st'[id]? = some (.tail xs.length)) (hd : AV.dataL ds = true)
    (hf : (xs.flatMap AV.cells).all AV.flat = true) : XCall P E f ds st fun r st' => r = .row st.length es 0 xs.length ∧ st' = st ++ [.cells (xs.flatMap AV.cells)] := by
  intro G w vs hr hs
  have hs0 : StoreRel E { slots := [], M := G.M, sh := G.sh } [] w := ⟨rfl, fun i o s h => by simp at h, fun i j s t b _ h => by simp at h, hs.mem, hs.one, hs.shp, hs.glob⟩
  refine (h { slots := [], M := G.M, sh := G.sh } w vs (stripL_rep (G := G) (G' := { slots := [], M := G.M, sh := G.sh }) (fun _ _ _ h => h) hd hr) hs0).mono fun e w' ⟨u, r, st', G1, he, hr', hs', hext, id, hrr, hid⟩ => ?_
  subst hrr
  simp only [Rep] at hr'
  obtain ⟨b, o, c, hrs, hlc, htok, sp, hsp, rfl⟩ := hr'
  obtain rfl : sp = none := by
    rcases hsp with h | h
    · exact h
    · cases h.2
  have hidl : id < G1.slots.length := by rw [hs'.len]; exact lt_of_getElem? hid
  have hsl : G1.slots[id]? = some G1.slots[id] := by simp [hidl]
  have hob := hs'.obj id _ _ hid hsl
  simp only [TokOk, hsl] at htok
  generalize G1.slots[id] = sl at hob hsl htok
  cases sl <;> simp only [ObjRel] at hob
  rename_i b' lo hi m
  obtain ⟨rfl, hlohi, ⟨arr, te, fz, p1, p2, p3, p5⟩, p4⟩ := hob
  simp only at htok
  obtain ⟨_, htok⟩ := htok
  obtain ⟨rfl, rfl, rfl, rfl⟩ := htok trivial
  have hnew : w.heap.size ≤ b' := by
    rcases hext.newS _ (List.mem_of_getElem? hsl) b' rfl with ⟨s, h', _⟩ | h'
    · simp at h'
    · exact h'
  have hblk : ∀ b, b < w.heap.size → w'.heap[b]? = w.heap[b]? := fun b hb => hext.block b hb fun s h => by simp at h
  have hnewM : ∀ b o u, G1.M b o = some u → G.M b o = some u ∨ w.heap.size ≤ b := fun b o u hu => by
    rcases hext.newM b o u hu with h' | ⟨s, h', _⟩ | h'
    · exact .inl h'
    · simp at h'
    · exact .inr h'
  obtain ⟨us, k1, k2, k3, k4⟩ := repS_cells hrs
  have hcs : RepL G1 (xs.flatMap AV.cells) ((us.map fun v => v.cells.toList).flatten) := repL_flatten k1 fun i x v hx hv => (k4 i x v hx hv).1
  generalize (us.map fun v => v.cells.toList).flatten = cs at k2 k3 k4 hcs
  have hlen : (xs.flatMap AV.cells).length = cs.length := (repL_length hcs).symm
  have harr : ∀ j v, cs[j]? = some v → arr[j]? = some v := fun j v hv => by
    have := hs'.mem _ _ _ (k3 j v hv)
    simpa [World.cell?, p1] using this
  have htake : arr.toList.take cs.length = cs := by
    apply List.ext_getElem?
    intro j
    rw [List.getElem?_take]
    split
    · rename_i hj
      have hv : cs[j]? = some cs[j] := by simp [hj]
      rw [hv, Array.getElem?_toList]
      exact harr j _ hv
    · rename_i hj
      rw [List.getElem?_eq_none (by omega)]
  have hle : cs.length ≤ arr.size := by rw [k2]; omega
  obtain ⟨M', hM'⟩ : ∃ M' : Nat → Nat → Option Value, M' = fun b o => if b = b' then none else G1.M b o := ⟨_, rfl⟩
  have hsub : ∀ b o u, M' b o = some u → b ≠ b' ∧ G1.M b o = some u := fun b o u hu => by
    rw [hM'] at hu
    simp only [] at hu
    split at hu
    · cases hu
    · rename_i hb; exact ⟨hb, hu⟩
  have hsup : ∀ b o u, G.M b o = some u → M' b o = some u := fun b o u hu => by
    have := hs.memBlock hu
    rw [hM']
    simp only []
    rw [if_neg (by omega)]
    exact hext.g.M _ _ _ hu
  have hg : GExt G { slots := G.slots ++ [.box b'], M := M', sh := G.sh } := GExt.push (s := .box b') hsup
  have hst : StoreRel E { slots := G.slots ++ [.box b'], M := M', sh := G.sh } (st ++ [.cells (xs.flatMap AV.cells)]) w' ∧ Ext G w { slots := G.slots ++ [.box b'], M := M', sh := G.sh } w' := by
   refine ⟨?_, ⟨hg, hext.os, hext.tape, hext.output, hext.size, fun b hb _ => hblk b hb, ?_, ?_⟩⟩
   · have hslot : ∀ (i : Nat) t, (G.slots ++ [Slot.box b'])[i]? = some t → (i < G.slots.length ∧ G.slots[i]? = some t) ∨ (i = G.slots.length ∧ t = .box b') := fun i t ht => by
       rcases Nat.lt_or_ge i G.slots.length with h' | h'
       · rw [List.getElem?_append_left h'] at ht; exact .inl ⟨h', ht⟩
       · rw [List.getElem?_append_right h'] at ht
         have : i - G.slots.length = 0 := by
           rcases Nat.eq_zero_or_pos (i - G.slots.length) with h'' | h''
           · exact h''
           · rw [List.getElem?_eq_none (by simp; omega)] at ht; cases ht
         rw [this] at ht
         simp at ht
         exact .inr ⟨by omega, ht.symm⟩
     refine ⟨by simp [hs.len], fun i o s ho hsl' => ?_, fun i j s t b hij hi hj hb => ?_, fun b o u hu => hs'.mem _ _ _ (hsub _ _ _ hu).2, fun b o u hu => hs'.one _ _ _ (hsub _ _ _ hu).2, fun b e n hx => (by
       have hb := hs.shb hx
       obtain ⟨arr2, fz2, h1, h2⟩ := hs.shp b e n hx
       exact ⟨arr2, fz2, by rw [hblk b hb]; exact h1, h2⟩), hs.glob.mono hg⟩
     · rcases hslot i s hsl' with ⟨hi, h'⟩ | ⟨hi, rfl⟩
       · rw [List.getElem?_append_left (by rw [← hs.len]; exact hi)] at ho
         have ho' := hs.obj i o s ho h'
         refine ho'.keep hg (fun b hb => hblk b (ho'.block hb)) fun b o u hb hu => ?_
         rcases hnewM b o u (hsub _ _ _ hu).2 with h'' | h''
         · exact h''
         · have := ho'.block hb; omega
       · rw [hi, hs.len, List.getElem?_append_right (Nat.le_refl _), Nat.sub_self] at ho
         simp at ho
         subst ho
         simp only [ObjRel]
         refine ⟨⟨arr, te, fz, p1, by rw [hlen]; exact hle, ?_, p3⟩, fun o u hu => absurd rfl (hsub _ _ _ hu).1⟩
         rw [hlen, htake]
         exact flat_repL hf hcs
     · rcases hslot i s hi with ⟨hi1, hi2⟩ | ⟨hi1, rfl⟩ <;> rcases hslot j t hj with ⟨hj1, hj2⟩ | ⟨hj1, rfl⟩
       · exact hs.apart i j s t b hij hi2 hj2 hb
       · intro e
         have := hs.block (List.mem_of_getElem? hi2) hb
         simp only [Slot.blk, Option.some.injEq] at e
         omega
       · intro e
         have := hs.block (List.mem_of_getElem? hj2) e
         simp only [Slot.blk, Option.some.injEq] at hb
         omega
       · omega
   · intro b o u hu
     rcases hnewM b o u (hsub _ _ _ hu).2 with h' | h'
     · exact .inl h'
     · exact .inr (.inr h')
   · intro s hs1 b hb
     rcases List.mem_append.1 hs1 with h' | h'
     · exact .inl ⟨s, h', hb⟩
     · simp at h'
       subst h'
       simp only [Slot.blk, Option.some.injEq] at hb
       exact .inr (by omega)
  obtain ⟨G2, g1, g2, g3, g4, g5, g6⟩ := sh_learn hst.1 p1
  refine ⟨_, _, _, G2, he, ?_, g2, hst.2.trans g3, rfl, rfl⟩
  simp only [Rep, g4]
  rw [← hs.len, List.getElem?_append_right (Nat.le_refl _), Nat.sub_self]
  exact ⟨c, _, _, hlc, g6, by rw [Nat.zero_add]; omega, by simp⟩

end Go.Proofs.Ytjbafmnocopofaa.AW
