/-
  The abstract walk: values that hold no objects; calls that are handed such alone.
-/
import Derived.Test.YtcidnoghoifmmaaDoorFwP
namespace Go.Proofs.YtcidnoghoifmmaaDoor.AW
open Go

mutual
def AV.data : AV → Bool
  | .agg cs => AV.dataL cs
  | .tup cs => AV.dataL cs
  | .dptr cs => AV.dataL cs
  | .sl _ xs _ => AV.dataL xs
  | .fn _ caps => AV.dataL caps
  | .ptr _ _ => false
  | .row _ _ _ _ => false
  | .mp _ => false
  | .int _ _ => true
  | .bool _ => true
  | .str _ => true
  | .gptr _ _ => true
  | .nilptr => true
  | .nils => true
  | .nilfn => true
  | .nilmp => true
  | .nilif => true
  | .nilB _ _ _ => false
  | .yld _ => false
def AV.dataL : List AV → Bool
  | [] => true
  | v :: vs => AV.data v && AV.dataL vs
end

mutual
def AV.strip : AV → AV
  | .agg cs => .agg (AV.stripL cs)
  | .tup cs => .tup (AV.stripL cs)
  | .dptr cs => .dptr (AV.stripL cs)
  | .sl es xs _ => .sl es (AV.stripL xs) none
  | .fn f caps => .fn f (AV.stripL caps)
  | .ptr i o => .ptr i o
  | .row i e o l => .row i e o l
  | .mp i => .mp i
  | .int k n => .int k n
  | .bool b => .bool b
  | .str s => .str s
  | .gptr g o => .gptr g o
  | .nilptr => .nilptr
  | .nils => .nils
  | .nilfn => .nilfn
  | .nilmp => .nilmp
  | .nilif => .nilif
  | .nilB i T n => .nilB i T n
  | .yld i => .yld i
def AV.stripL : List AV → List AV
  | [] => []
  | v :: vs => AV.strip v :: AV.stripL vs
end

theorem stripL_length : ∀ vs : List AV, (AV.stripL vs).length = vs.length
  | [] => rfl
  | v :: vs => by simp [AV.stripL, stripL_length vs]

mutual
theorem strip_rep {G G' : Gh} (hM : ∀ b o u, G.M b o = some u → G'.M b o = some u) : ∀ {v : AV} {u : Value}, v.data = true → Rep G v u → Rep G' v.strip u
  | .agg cs, u, hd, h => by
    simp only [AV.data] at hd
    simp only [Rep, AV.strip] at h ⊢
    obtain ⟨us, h, e⟩ := h
    exact ⟨us, stripL_rep hM hd h, e⟩
  | .tup cs, u, hd, h => by
    simp only [AV.data] at hd
    simp only [Rep, AV.strip] at h ⊢
    obtain ⟨us, h, e⟩ := h
    exact ⟨us, stripL_rep hM hd h, e⟩
  | .dptr cs, u, hd, h => by
    simp only [AV.data] at hd
    simp only [Rep, AV.strip] at h ⊢
    obtain ⟨b, o, us, h, hm, e⟩ := h
    exact ⟨b, o, us, stripL_rep hM hd h, fun j v hv => hM _ _ _ (hm j v hv), e⟩
  | .sl es xs tok, u, hd, h => by
    simp only [AV.data] at hd
    simp only [Rep, AV.strip] at h ⊢
    obtain ⟨b, o, c, h, hl, _, sp, hsp, e⟩ := h
    exact ⟨b, o, c, stripS_rep hM hd h, by rw [stripL_length]; exact hl, trivial, sp, hsp.imp_right fun h => ⟨h.1, trivial⟩, by rw [stripL_length]; exact e⟩
  | .fn f caps, u, hd, h => by
    simp only [AV.data] at hd
    simp only [Rep, AV.strip] at h ⊢
    obtain ⟨us, h, e⟩ := h
    exact ⟨us, stripL_rep hM hd h, e⟩
  | .ptr _ _, _, hd, _ => by simp [AV.data] at hd
  | .row _ _ _ _, _, hd, _ => by simp [AV.data] at hd
  | .mp _, _, hd, _ => by simp [AV.data] at hd
  | .nilB _ _ _, _, hd, _ => by simp [AV.data] at hd
  | .yld _, _, hd, _ => by simp [AV.data] at hd
  | .int _ _, _, _, h => by simpa only [Rep, AV.strip] using h
  | .bool _, _, _, h => by simpa only [Rep, AV.strip] using h
  | .str _, _, _, h => by simpa only [Rep, AV.strip] using h
  | .gptr _ _, _, _, h => by simpa only [Rep, AV.strip] using h
  | .nilptr, _, _, h => by simpa only [Rep, AV.strip] using h
  | .nils, _, _, h => by simpa only [Rep, AV.strip] using h
  | .nilfn, _, _, h => by simpa only [Rep, AV.strip] using h
  | .nilmp, _, _, h => by simpa only [Rep, AV.strip] using h
  | .nilif, _, _, h => by simpa only [Rep, AV.strip] using h
theorem stripL_rep {G G' : Gh} (hM : ∀ b o u, G.M b o = some u → G'.M b o = some u) : ∀ {vs : List AV} {us : List Value}, AV.dataL vs = true → RepL G vs us → RepL G' (AV.stripL vs) us
  | [], us, _, h => by simpa only [RepL, AV.stripL] using h
  | v :: vs, us, hd, h => by
    simp only [AV.dataL, Bool.and_eq_true] at hd
    simp only [RepL, AV.stripL] at h ⊢
    obtain ⟨u, us', e, hr, h⟩ := h
    exact ⟨u, us', e, strip_rep hM hd.1 hr, stripL_rep hM hd.2 h⟩
theorem stripS_rep {G G' : Gh} (hM : ∀ b o u, G.M b o = some u → G'.M b o = some u) {es b : Nat} : ∀ {o : Nat} {xs : List AV}, AV.dataL xs = true → RepS G es b o xs → RepS G' es b o (AV.stripL xs)
  | _, [], _, _ => by simp only [RepS, AV.stripL]
  | o, v :: vs, hd, h => by
    simp only [AV.dataL, Bool.and_eq_true] at hd
    simp only [RepS, AV.stripL] at h ⊢
    obtain ⟨⟨u, hr, hs, hm⟩, h⟩ := h
    exact ⟨⟨u, strip_rep hM hd.1 hr, hs, fun j x hx => hM _ _ _ (hm j x hx)⟩, stripS_rep hM hd.2 h⟩
end

def DCall (P : Program) (E : Glob) (f : FuncId) (ds : List AV) (K : AV → Prop) : Prop :=
  XCall P E f ds [] fun r _ => r.data = true ∧ K r.strip

theorem DCall.mono {P : Program} {E : Glob} {f : FuncId} {ds : List AV} {K K' : AV → Prop} (h : DCall P E f ds K) (hk : ∀ r, K r → K' r) : DCall P E f ds K' :=
  XCall.mono h fun _ _ ⟨h1, h2⟩ => ⟨h1, hk _ h2⟩

theorem xcall_data {P : Program} {E : Glob} {f : FuncId} {ds : List AV} {st : Store} {K : AV → Store → Prop} (h : DCall P E f (AV.stripL ds) fun r => K r st) (hd : AV.dataL ds = true) : XCall P E f ds st K := by
  intro G w vs hr hs
  have hs0 : StoreRel E { slots := [], M := G.M, sh := G.sh } [] w := ⟨rfl, fun i o s h => by simp at h, fun i j s t b _ h => by simp at h, hs.mem, hs.one, hs.shp, hs.glob⟩
  refine (h { slots := [], M := G.M, sh := G.sh } w vs (stripL_rep (G := G) (G' := { slots := [], M := G.M, sh := G.sh }) (fun _ _ _ h => h) hd hr) hs0).mono fun e w' ⟨u, r, st', G', he, hr', hs', hext, hdr, hk⟩ => ?_
  have hnoown : ∀ s ∈ ({ slots := [], M := G.M, sh := G.sh } : Gh).slots, ∀ b, s.blk ≠ some b := fun s h => by simp at h
  have hblk : ∀ b, b < w.heap.size → w'.heap[b]? = w.heap[b]? := fun b hb => hext.block b hb fun s h => by simp at h
  have hnewM : ∀ b o u, G'.M b o = some u → G.M b o = some u ∨ w.heap.size ≤ b := fun b o u hu => by
    rcases hext.newM b o u hu with h' | ⟨s, h', _⟩ | h'
    · exact .inl h'
    · simp at h'
    · exact .inr h'
  have hg : GExt G { slots := G.slots, M := G'.M, sh := G.sh } :=
    ⟨fun _ _ h => h, hext.g.M, Nat.le_refl _, fun i b h => .inl h, fun i b h => .inl h, fun i h => h, fun i b lo hi n h => .inr ⟨b, lo, hi, n, h, Nat.le_refl _, fun _ => ⟨rfl, rfl, rfl⟩⟩⟩
  refine ⟨u, r.strip, st, { slots := G.slots, M := G'.M, sh := G.sh }, he, strip_rep (G := G') (G' := { slots := G.slots, M := G'.M, sh := G.sh }) (fun _ _ _ h => h) hdr hr', ⟨hs.len, fun i o s ho hsl => ?_, hs.apart, hs'.mem, hs'.one, fun b e n hx => (by
      have hb := hs.shb hx
      obtain ⟨arr, fz, h1, h2⟩ := hs.shp b e n hx
      exact ⟨arr, fz, by rw [hblk b hb]; exact h1, h2⟩), hs.glob.mono hg⟩, ⟨hg, hext.os, hext.tape, hext.output, hext.size, fun b hb _ => hblk b hb, ?_, fun s hs b hb => .inl ⟨s, hs, hb⟩⟩, hk⟩
  · have ho' := hs.obj i o s ho hsl
    refine ho'.keep hg (fun b hb => hblk b (ho'.block hb)) fun b o u hb hu => ?_
    rcases hnewM b o u hu with h' | h'
    · exact h'
    · have := ho'.block hb; omega
  · intro b o u hu
    rcases hnewM b o u hu with h' | h'
    · exact .inl h'
    · exact .inr (.inr h')

def DFun (P : Program) (E : Glob) (f : FuncId) (ds : List AV) (r : AV) : Prop := DCall P E f ds fun x => x = r

theorem xcall_fun {P : Program} {E : Glob} {f : FuncId} {ds ds' : List AV} {r : AV} {st : Store} {K : AV → Store → Prop} (h : DFun P E f ds' r) (hd : AV.dataL ds = true) (he : AV.stripL ds = ds') (hk : K r st) : XCall P E f ds st K := by
  subst he
  exact xcall_data (DCall.mono (K' := fun r => K r st) h fun x e => by rw [e]; exact hk) hd

end Go.Proofs.YtcidnoghoifmmaaDoor.AW
