/-
  The abstract walk: values that hold no objects; calls that are handed such alone.
-/
import Derived.Test.YtcidnoghoifmmaaDoorFwP
namespace Go.Proofs.YtcidnoghoifmmaaDoor.AW
open Go

mutual
def AV.data:AV→Bool
 | .agg cs=>AV.dP cs
 | .bt cs=>AV.dP cs
 | .aQ cs=>AV.dP cs
 | .sl _ xs _=>AV.dP xs
 | .fn _ caps=>AV.dP caps
 | .ptr _ _=>false
 | .row _ _ _ _=>false
 | .mp _=>false
 | .int _ _=>true
 | .bool _=>true
 | .str _=>true
 | .fV _ _=>true
 | .iF=>true
 | .aP=>true
 | .cQ=>true
 | .lZ=>true
 | .ic=>true
 | .pS _ _ _=>false
 | .nR _=>false
def AV.dP:List AV→Bool
 | []=>true
 | v::vs=>AV.data v&&AV.dP vs
end

mutual
def AV.strip:AV→AV
 | .agg cs=>.agg (AV.cG cs)
 | .bt cs=>.bt (AV.cG cs)
 | .aQ cs=>.aQ (AV.cG cs)
 | .sl es xs _=>.sl es (AV.cG xs) none
 | .fn f caps=>.fn f (AV.cG caps)
 | .ptr i o=>.ptr i o
 | .row i e o l=>.row i e o l
 | .mp i=>.mp i
 | .int k n=>.int k n
 | .bool b=>.bool b
 | .str s=>.str s
 | .fV g o=>.fV g o
 | .iF=>.iF
 | .aP=>.aP
 | .cQ=>.cQ
 | .lZ=>.lZ
 | .ic=>.ic
 | .pS i T n=>.pS i T n
 | .nR i=>.nR i
def AV.cG:List AV→List AV
 | []=>[]
 | v::vs=>AV.strip v::AV.cG vs
end

theorem jV: ∀vs:List AV,(AV.cG vs).length=vs.length
 | []=>rfl
 | v::vs=>by simp [AV.cG,jV vs]
mutual
theorem fU {G G':Gh} (hM: ∀b o u,G.M b o=some u→G'.M b o=some u): ∀ {v:AV} {u:Value},v.data=true→aU G v u→aU G' v.strip u
  | .agg cs,u,hd,h=>by
    simp only [AV.data] at hd
    simp only [aU,AV.strip] at h ⊢
    obtain ⟨us,h,e⟩:=h
    exact ⟨us,fE hM hd h,e⟩
  | .bt cs,u,hd,h=>by
    simp only [AV.data] at hd
    simp only [aU,AV.strip] at h ⊢
    obtain ⟨us,h,e⟩:=h
    exact ⟨us,fE hM hd h,e⟩
  | .aQ cs,u,hd,h=>by
    simp only [AV.data] at hd
    simp only [aU,AV.strip] at h ⊢
    obtain ⟨b,o,us,h,hm,e⟩:=h
    exact ⟨b,o,us,fE hM hd h,fun j v hv=>hM _ _ _ (hm j v hv),e⟩
  | .sl es xs tok,u,hd,h=>by
    simp only [AV.data] at hd
    simp only [aU,AV.strip] at h ⊢
    obtain ⟨b,o,c,h,hl,_,sp,hsp,e⟩:=h
    exact ⟨b,o,c,tr hM hd h,by rw [jV];exact hl,trivial,sp,hsp.imp_right fun h=>⟨h.1,trivial⟩,by rw [jV];exact e⟩
  | .fn f caps,u,hd,h=>by
    simp only [AV.data] at hd
    simp only [aU,AV.strip] at h ⊢
    obtain ⟨us,h,e⟩:=h
    exact ⟨us,fE hM hd h,e⟩
  | .ptr _ _,_,hd,_=>by simp [AV.data] at hd
  | .row _ _ _ _,_,hd,_=>by simp [AV.data] at hd
  | .mp _,_,hd,_=>by simp [AV.data] at hd
  | .pS _ _ _,_,hd,_=>by simp [AV.data] at hd
  | .nR _,_,hd,_=>by simp [AV.data] at hd
  | .int _ _,_,_,h=>by simpa only [aU,AV.strip] using h
  | .bool _,_,_,h=>by simpa only [aU,AV.strip] using h
  | .str _,_,_,h=>by simpa only [aU,AV.strip] using h
  | .fV _ _,_,_,h=>by simpa only [aU,AV.strip] using h
  | .iF,_,_,h=>by simpa only [aU,AV.strip] using h
  | .aP,_,_,h=>by simpa only [aU,AV.strip] using h
  | .cQ,_,_,h=>by simpa only [aU,AV.strip] using h
  | .lZ,_,_,h=>by simpa only [aU,AV.strip] using h
  | .ic,_,_,h=>by simpa only [aU,AV.strip] using h
theorem fE {G G':Gh} (hM: ∀b o u,G.M b o=some u→G'.M b o=some u): ∀ {vs:List AV} {us:List Value},AV.dP vs=true→aW G vs us→aW G' (AV.cG vs) us
  | [],us,_,h=>by simpa only [aW,AV.cG] using h
  | v::vs,us,hd,h=>by
    simp only [AV.dP,Bool.and_eq_true] at hd
    simp only [aW,AV.cG] at h ⊢
    obtain ⟨u,us',e,hr,h⟩:=h
    exact ⟨u,us',e,fU hM hd.1 hr,fE hM hd.2 h⟩
theorem tr {G G':Gh} (hM: ∀b o u,G.M b o=some u→G'.M b o=some u) {es b:Nat}: ∀ {o:Nat} {xs:List AV},AV.dP xs=true→dI G es b o xs→dI G' es b o (AV.cG xs)
  | _,[],_,_=>by simp only [dI,AV.cG]
  | o,v::vs,hd,h=>by
    simp only [AV.dP,Bool.and_eq_true] at hd
    simp only [dI,AV.cG] at h ⊢
    obtain ⟨⟨u,hr,hs,hm⟩,h⟩:=h
    exact ⟨⟨u,fU hM hd.1 hr,hs,fun j x hx=>hM _ _ _ (hm j x hx)⟩,tr hM hd.2 h⟩
end

def uW (P:Program) (E:bA) (f:FuncId) (ds:List AV) (K:AV→Prop):Prop:=
 XCall P E f ds [] fun r _=>r.data=true∧K r.strip

theorem uW.mono {P:Program} {E:bA} {f:FuncId} {ds:List AV} {K K':AV→Prop} (h:uW P E f ds K) (hk: ∀r,K r→K' r):uW P E f ds K':=
 XCall.mono h fun _ _ ⟨h1,h2⟩=>⟨h1,hk _ h2⟩
theorem Bg {P:Program} {E:bA} {f:FuncId} {ds:List AV} {st:aA} {K:AV→aA→Prop} (h:uW P E f (AV.cG ds) fun r=>K r st) (hd:AV.dP ds=true):XCall P E f ds st K:=by
 intro G w vs hr hs
 have hs0:aG E {slots:=[],M:=G.M,sh:=G.sh} [] w:=⟨rfl,fun i o s h=>by simp at h,fun i j s t b _ h=>by simp at h,hs.mem,hs.one,hs.jU,hs.gG⟩
 refine (h {slots:=[],M:=G.M,sh:=G.sh} w vs (fE (G:=G) (G':={slots:=[],M:=G.M,sh:=G.sh}) (fun _ _ _ h=>h) hd hr) hs0).mono fun e w' ⟨u,r,st',G',he,hr',hs',hext,hdr,hk⟩=>?_
 have hnoown: ∀s∈({slots:=[],M:=G.M,sh:=G.sh}:Gh).slots,∀b,s.blk≠some b:=fun s h=>by simp at h
 have hblk: ∀b,b<w.heap.size→w'.heap[b]? =w.heap[b]? :=fun b hb=>hext.block b hb fun s h=>by simp at h
 have hnewM: ∀b o u,G'.M b o=some u→G.M b o=some u∨w.heap.size≤b:=fun b o u hu=>by
  rcases hext.uM b o u hu with h' | ⟨s,h',_⟩ | h'
  ·exact .inl h'
  ·simp at h'
  exact .inr h'
 have hg:cj G {slots:=G.slots,M:=G'.M,sh:=G.sh}:=
  ⟨fun _ _ h=>h,hext.g.M,Nat.le_refl _,fun i b h=>.inl h,fun i b h=>.inl h,fun i h=>h,fun i b lo hi n h=>.inr ⟨b,lo,hi,n,h,Nat.le_refl _,fun _=>⟨rfl,rfl,rfl⟩⟩⟩
 refine ⟨u,r.strip,st,{slots:=G.slots,M:=G'.M,sh:=G.sh},he,fU (G:=G') (G':={slots:=G.slots,M:=G'.M,sh:=G.sh}) (fun _ _ _ h=>h) hdr hr',⟨hs.len,fun i o s ho hsl=>?_,hs.apart,hs'.mem,hs'.one,fun b e n hx=>(by
   have hb:=hs.RQ hx
   obtain ⟨arr,fz,h1,h2⟩:=hs.jU b e n hx
   exact ⟨arr,fz,by rw [hblk b hb];exact h1,h2⟩),hs.gG.mono hg⟩,⟨hg,hext.os,hext.tape,hext.output,hext.size,fun b hb _=>hblk b hb,?_,fun s hs b hb=>.inl ⟨s,hs,hb⟩⟩,hk⟩
 ·have ho':=hs.obj i o s ho hsl
  refine ho'.keep hg (fun b hb=>hblk b (ho'.block hb)) fun b o u hb hu=>?_
  rcases hnewM b o u hu with h' | h'
  ·exact h'
  have:=ho'.block hb;omega
 intro b o u hu
 rcases hnewM b o u hu with h' | h'
 ·exact .inl h'
 exact .inr (.inr h')
def DFun (P:Program) (E:bA) (f:FuncId) (ds:List AV) (r:AV):Prop:=uW P E f ds fun x=>x=r

theorem vQ {P:Program} {E:bA} {f:FuncId} {ds ds':List AV} {r:AV} {st:aA} {K:AV→aA→Prop} (h:DFun P E f ds' r) (hd:AV.dP ds=true) (he:AV.cG ds=ds') (hk:K r st):XCall P E f ds st K:=by
 subst he
 exact Bg (uW.mono (K':=fun r=>K r st) h fun x e=>by rw [e];exact hk) hd
end Go.Proofs.YtcidnoghoifmmaaDoor.AW
