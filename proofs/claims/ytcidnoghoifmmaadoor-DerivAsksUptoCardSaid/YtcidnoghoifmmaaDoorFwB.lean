/-
  The abstract walk: a store of objects, what it stands for, and how it may turn.
-/
import Derived.Test.YtcidnoghoifmmaaDoorFwA
namespace Go.Proofs.YtcidnoghoifmmaaDoor.AW
open Go

abbrev bA:=Nat→Option (List AV)

def nC (E:bA) (G:Gh):Prop:= ∀g cs,E g=some cs→ ∃us,aW {slots:=[],M:=G.M} cs us∧(∀j v,us[j]? =some v→G.M g j=some v)∧ ∃e,G.sh g=some (e,us.length)

theorem cj.bare (G:Gh):cj {slots:=[],M:=G.M} G:=
 ⟨fun _ _ h=>by simp at h,fun _ _ _ h=>h,Nat.zero_le _,fun _ _ h=>by simp at h,fun _ _ h=>by simp at h,fun _ h=>by simp at h,fun _ _ _ _ _ h=>by simp at h⟩
theorem cj.UR {M M':Nat→Nat→Option Value} (h: ∀b o u,M b o=some u→M' b o=some u):cj {slots:=[],M:=M} {slots:=[],M:=M'}:=
 ⟨fun _ _ h=>by simp at h,h,Nat.le_refl _,fun _ _ h=>by simp at h,fun _ _ h=>by simp at h,fun _ h=>by simp at h,fun _ _ _ _ _ h=>by simp at h⟩
def jY (fz:Nat × Nat) (o:Nat):Prop:= ¬(fz.1≤o∧o<fz.2)

def Jy (fz:Nat × Nat) (n:Nat):Prop:=fz.1=fz.2∨n≤fz.1

theorem Jy.un {fz:Nat × Nat} {n:Nat} (h:Jy fz n) (o:Nat) (ho:o<n):jY fz o:=by
 rcases h with h | h<;>simp only [jY]<;>omega
def dA (kd:Option IntKind):Value→Option Key
  | .string b=>match kd with
    | none=>some (.s b.data.toList)
    | some _=>none
  | .int k n=>match kd with
    | some k'=>if k=k' then some (.i n) else none
    | none=>none
  | _=>none

def ef (kd:Option IntKind) (c:Key):List MapEntry→Nat→Option (Nat × Value)
 | [],_=>none
 | e::es,i=>if dA kd e.key=some c then some (i,e.val) else ef kd c es (i+1)

def jR (G:Gh):Option AV→Option (Nat × Value)→Prop
 | some v,some (_,u)=>aU G v u
 | none,none=>True
 | _,_=>False

theorem jR.mono {G G':Gh} (hg:cj G G') {v:Option AV} {u:Option (Nat × Value)} (h:jR G v u):jR G' v u:=by
 cases v<;>cases u<;>simp only [jR] at h ⊢
 exact h.mono hg
def vi (G:Gh) (es:Array MapEntry) (kd:Option IntKind) (f:Key→Option AV) (n:Nat):Prop:=
 es.size=n∧(∀e∈es.toList,dA kd e.key≠none)∧ ∀c,jR G (f c) (ef kd c es.toList 0)

def Kf (t:Option Nat) (e:TypeId):Prop:= ∀T,t=some T→e=T

def bl (G:Gh) (w:World):cz→Slot→Prop
 | .cells cs,.box b=>(∃arr e fz,w.heap[b]? =some (.cells arr e fz)∧cs.length≤arr.size∧aW G cs (arr.toList.take cs.length)∧Jy fz arr.size)∧ ∀o u,G.M b o≠some u
 | .tail n t,.tail b lo hi m=>m=n∧lo≤hi∧(∃arr e fz,w.heap[b]? =some (.cells arr e fz)∧hi≤arr.size∧Jy fz arr.size∧Kf t e)∧ ∀o u,lo≤o→G.M b o≠some u
 | .loop N ps ca cb tm s p,.box b=>(∃(fn:FuncId) (T:Array Value) (D:Nat),w.heap[b]? =some (.loop {state:=s,pending:=p,fn,tmps:=T,params:=ps.toArray,assign:=ca,body:=cb,defers:=D})∧T.size=N∧ ∀t,aU G (tm t) (T.getD t undef))∧ ∀o u,G.M b o≠some u
 | .map kd f n,.ia b=>(∃es clock,w.heap[b]? =some (.map es clock)∧vi G es kd f n)∧ ∀o u,G.M b o≠some u
 | .uQ l t,.box b=> ∃arr fz,w.heap[b]? =some (.cells arr t fz)∧l.length≤arr.size∧ ∀(j:Nat) (x:UInt8),l[j]? =some x→arr[j]? =some (Value.int .u8 (x.toNat:Int))
 | .dead,.dead=>True
 | .bB,.bB=>True
 | _,_=>False

structure aG (E:bA) (G:Gh) (st:aA) (w:World):Prop where
 len:G.slots.length=st.length
 obj: ∀(i:Nat) (o:cz) (s:Slot),st[i]? =some o→G.slots[i]? =some s→bl G w o s
 apart: ∀(i j:Nat) (s t:Slot) (b:Nat),i≠j→G.slots[i]? =some s→G.slots[j]? =some t→s.blk=some b→t.blk≠some b
 mem: ∀b o u,G.M b o=some u→w.cell? ⟨b,o,none⟩=some u
 one: ∀b o u,G.M b o=some u→u.oneCell'=true
 jU: ∀b e n,G.sh b=some (e,n)→ ∃arr fz,w.heap[b]? =some (.cells arr e fz)∧arr.size=n
 gG:nC E G

structure Ext (G:Gh) (w:World) (G':Gh) (w':World):Prop where
 g:cj G G'
 os:w'.os=w.os
 tape:w'.tape=w.tape
 output:w'.output=w.output
 size:w.heap.size≤w'.heap.size
 block: ∀b,b<w.heap.size→(∀s∈G.slots,s.blk≠some b)→w'.heap[b]? =w.heap[b]?
 uM: ∀b o u,G'.M b o=some u→G.M b o=some u∨(∃s∈G.slots,s.blk=some b)∨w.heap.size≤b
 sx: ∀s∈G'.slots,∀b,s.blk=some b→(∃s'∈G.slots,s'.blk=some b)∨w.heap.size≤b

theorem Ext.refl (G:Gh) (w:World):Ext G w G w:=
 ⟨cj.refl G,rfl,rfl,rfl,Nat.le_refl _,fun _ _ _=>rfl,fun _ _ _ h=>.inl h,fun s hs _ hb=>.inl ⟨s,hs,hb⟩⟩
theorem Ext.trans {G₁ G₂ G₃ :Gh} {w₁ w₂ w₃ :World} (h:Ext G₁ w₁ G₂ w₂) (k:Ext G₂ w₂ G₃ w₃):Ext G₁ w₁ G₃ w₃ where
 g:=h.g.trans k.g
 os:=k.os.trans h.os
 tape:=k.tape.trans h.tape
 output:=k.output.trans h.output
 size:=Nat.le_trans h.size k.size
 block b hb hn:=by
  rw [k.block b (Nat.lt_of_lt_of_le hb h.size) fun s hs e=>?_,h.block b hb hn]
  rcases h.sx s hs b e with ⟨s',hs',e'⟩ | h'
  ·exact hn s' hs' e'
  omega
 uM b o u hu:=by
  rcases k.uM b o u hu with h' | ⟨s,hs,e⟩ | h'
  ·exact h.uM b o u h'
  ·rcases h.sx s hs b e with h'' | h''
   ·exact .inr (.inl h'')
   exact .inr (.inr h'')
  exact .inr (.inr (Nat.le_trans h.size h'))
 sx s hs b e:=by
  rcases k.sx s hs b e with ⟨s',hs',e'⟩ | h'
  ·exact h.sx s' hs' b e'
  exact .inr (Nat.le_trans h.size h')
theorem Ext.drew {G G':Gh} {w w':World} (h:Ext G w G' w') (n:Nat):Ext G w G' {w' with drawn:=n}:=
 ⟨h.g,h.os,h.tape,h.output,h.size,h.block,h.uM,h.sx⟩
theorem nC.mono {E:bA} {G G':Gh} (hg:cj G G') (h:nC E G):nC E G':=fun g cs hc=>
 let ⟨us,hr,hm,e,hs⟩:=h g cs hc
 ⟨us,aW.mono (cj.UR hg.M) hr,fun j v hv=>hg.M _ _ _ (hm j v hv),e,hg.sh _ _ hs⟩
theorem aG.drew {E:bA} {G:Gh} {st:aA} {w:World} (h:aG E G st w) (n:Nat):aG E G st {w with drawn:=n} where
 len:=h.len
 obj i o s ho hs:=by
  have:=h.obj i o s ho hs
  cases o<;>cases s<;>simp only [bl] at this ⊢ <;>exact this
 apart:=h.apart
 mem:=h.mem
 one:=h.one
 jU:=h.jU
 gG:=h.gG
theorem bl.keep {G G':Gh} {w w':World} {o:cz} {s:Slot} (hg:cj G G') (hb: ∀b,s.blk=some b→w'.heap[b]? =w.heap[b]?)
  (hm: ∀b o u,s.blk=some b→G'.M b o=some u→G.M b o=some u) (h:bl G w o s):bl G' w' o s:=by
 cases o<;>cases s<;>simp only [bl] at h ⊢
 case cells.box cs b=>
  obtain ⟨⟨arr,e,fz,h1,h2,h3,h4⟩,h5⟩:=h
  exact ⟨⟨arr,e,fz,by rw [hb b rfl];exact h1,h2,aW.mono hg h3,h4⟩,fun o u hu=>h5 o u (hm b o u rfl hu)⟩
 case tail.tail n t b lo hi m=>
  obtain ⟨h1,h2,⟨arr,e,fz,h3,h4,h5⟩,h6⟩:=h
  exact ⟨h1,h2,⟨arr,e,fz,by rw [hb b rfl];exact h3,h4,h5⟩,fun o u hl hu=>h6 o u hl (hm b o u rfl hu)⟩
 case map.ia kd f n b=>
  obtain ⟨⟨es,clock,h1,h2,h3,h4⟩,h5⟩:=h
  exact ⟨⟨es,clock,by rw [hb b rfl];exact h1,h2,h3,fun c=>(h4 c).mono hg⟩,fun o u hu=>h5 o u (hm b o u rfl hu)⟩
 case loop.box N ps ca cb tm s p b=>
  obtain ⟨⟨fn,T,D,h1,h2,h3⟩,h5⟩:=h
  exact ⟨⟨fn,T,D,by rw [hb b rfl];exact h1,h2,fun t=>(h3 t).mono hg⟩,fun o u hu=>h5 o u (hm b o u rfl hu)⟩
 case uQ.box l t b=>
  obtain ⟨arr,fz,h1,h2,h3⟩:=h
  exact ⟨arr,fz,by rw [hb b rfl];exact h1,h2,h3⟩
theorem bl.block {G:Gh} {w:World} {o:cz} {s:Slot} (h:bl G w o s) {b:Nat} (hb:s.blk=some b):b<w.heap.size:=by
 have key: ∀ {x:Obj},w.heap[b]? =some x→b<w.heap.size:=fun {x} hx=>by
  rcases Nat.lt_or_ge b w.heap.size with h' | h'
  ·exact h'
  rw [Array.getElem?_eq_none h'] at hx;cases hx
 cases o<;>cases s<;>simp only [bl,Slot.blk] at h hb
 case cells.box cs b'=>cases hb;obtain ⟨⟨arr,e,fz,h1,_⟩,_⟩:=h;exact key h1
 case tail.tail n t b' lo hi m=>cases hb;obtain ⟨_,_,⟨arr,e,fz,h1,_⟩,_⟩:=h;exact key h1
 case map.ia kd f n b'=>cases hb;obtain ⟨⟨es,clock,h1,_⟩,_⟩:=h;exact key h1
 case loop.box N ps ca cb tm s p b'=>cases hb;obtain ⟨⟨fn,T,D,h1,_⟩,_⟩:=h;exact key h1
 case uQ.box l t b'=>cases hb;obtain ⟨arr,fz,h1,_⟩:=h;exact key h1
 case dead.dead=>cases hb
 case bB.bB=>cases hb
theorem aG.block {E:bA} {G:Gh} {st:aA} {w:World} (h:aG E G st w) {s:Slot} (hs:s∈G.slots) {b:Nat} (hb:s.blk=some b):b<w.heap.size:=by
 obtain ⟨i,hi⟩:=List.getElem?_of_mem hs
 have hl:i<st.length:=by
  rcases Nat.lt_or_ge i st.length with h' | h'
  ·exact h'
  rw [←h.len] at h';rw [List.getElem?_eq_none h'] at hi;cases hi
 exact (h.obj i st[i] s (by simp [hl]) hi).block hb
theorem Ac {w:World} {b o:Nat} {u:Value} (h:w.cell? ⟨b,o,none⟩=some u):b<w.heap.size:=by
 rcases Nat.lt_or_ge b w.heap.size with h' | h'
 ·exact h'
 simp [World.cell?,Array.getElem?_eq_none h'] at h
theorem aG.cV {E:bA} {G:Gh} {st:aA} {w:World} (h:aG E G st w) {b o:Nat} {u:Value} (hm:G.M b o=some u):b<w.heap.size:=
 Ac (h.mem b o u hm)
def Gh.push (G:Gh) (s:Slot) (M:Nat→Nat→Option Value):Gh:={slots:=G.slots++[s],M:=M,sh:=G.sh}

theorem aG.RQ {E:bA} {G:Gh} {st:aA} {w:World} (h:aG E G st w) {b:Nat} {x:Nat × Nat} (hx:G.sh b=some x):b<w.heap.size:=by
 obtain ⟨e,n⟩:=x
 obtain ⟨arr,fz,h1,_⟩:=h.jU b e n hx
 rcases Nat.lt_or_ge b w.heap.size with h' | h'
 ·exact h'
 rw [Array.getElem?_eq_none h'] at h1;cases h1
theorem getElem?_push_lt {α :Type} {l:List α} {x: α} {i:Nat} (h:i<l.length):(l++[x])[i]? =l[i]? :=by
 rw [List.getElem?_append_left h]
theorem aD {α :Type} {l:List α} {x: α} {i:Nat} (h:l[i]? =some x):i<l.length:=by
 rcases Nat.lt_or_ge i l.length with h' | h'
 ·exact h'
 rw [List.getElem?_eq_none h'] at h;cases h
theorem cj.push {G:Gh} {s:Slot} {M:Nat→Nat→Option Value} (hM: ∀b o u,G.M b o=some u→M b o=some u):cj G (G.push s M) where
 sh _ _ h:=h
 M:=hM
 len:=by simp [Gh.push]
 box i b h:=.inl (by simp only [Gh.push];rw [getElem?_push_lt (aD h)];exact h)
 ia i b h:=.inl (by simp only [Gh.push];rw [getElem?_push_lt (aD h)];exact h)
 dead i h:=by simp only [Gh.push];rw [getElem?_push_lt (aD h)];exact h
 tail i b lo hi n h:=.inr ⟨b,lo,hi,n,by simp only [Gh.push];rw [getElem?_push_lt (aD h)];exact h,Nat.le_refl _,fun _=>⟨rfl,rfl,rfl⟩⟩
theorem oW {E:bA} {G:Gh} {st:aA} {w:World} (h:aG E G st w) {o:cz} {s:Slot} {M:Nat→Nat→Option Value} {x:Obj}
  (hM: ∀b o u,G.M b o=some u→M b o=some u) (hN: ∀b o u,M b o=some u→G.M b o=some u∨b=w.heap.size)
  (hc: ∀o u,M w.heap.size o=some u→(w.alloc x).cell? ⟨w.heap.size,o,none⟩=some u∧u.oneCell'=true)
  (hs:s.blk=some w.heap.size∨s.blk=none) (ho:bl (G.push s M) (w.alloc x) o s):
  aG E (G.push s M) (st++[o]) (w.alloc x)∧Ext G w (G.push s M) (w.alloc x):=by
 have hg:cj G (G.push s M):=cj.push hM
 have hheap: ∀b,b<w.heap.size→(w.alloc x).heap[b]? =w.heap[b]? :=fun b hb=>Go.RowKit.Below.heap_alloc w x b hb
 have hsl: ∀(i:Nat) t,(G.push s M).slots[i]? =some t→(i<G.slots.length∧G.slots[i]? =some t)∨(i=G.slots.length∧t=s):=by
  intro i t ht
  simp only [Gh.push,List.getElem?_append] at ht
  split at ht
  ·rename_i hi;exact .inl ⟨hi,ht⟩
  rename_i hi
  right
  have:i-G.slots.length=0:=by
   rcases Nat.eq_zero_or_pos (i-G.slots.length) with h' | h'
   ·exact h'
   rw [List.getElem?_eq_none (by simp;omega)] at ht;cases ht
  rw [this] at ht
  simp at ht
  exact ⟨by omega,ht.symm⟩
 refine ⟨⟨by simp [Gh.push,h.len],?_,?_,?_,?_,fun b e n hx=>by
  have hb:=h.RQ hx
  obtain ⟨arr,fz,h1,h2⟩:=h.jU b e n hx
  exact ⟨arr,fz,by rw [hheap b hb];exact h1,h2⟩,h.gG.mono hg⟩,⟨hg,rfl,rfl,rfl,by simp,fun b hb _=>hheap b hb,?_,?_⟩⟩
 ·intro i o' t ho' ht
  rcases hsl i t ht with ⟨hi,ht'⟩ | ⟨hi,rfl⟩
  ·rw [getElem?_push_lt (by rw [←h.len];exact hi)] at ho'
   have hr:=h.obj i o' t ho' ht'
   refine hr.keep hg (fun b hb=>hheap b (hr.block hb)) fun b o u hb hu=>?_
   rcases hN b o u hu with h' | h'
   ·exact h'
   have:=hr.block hb;omega
  have:o'=o:=by
   rw [hi,h.len] at ho'
   simpa using ho'.symm
  rw [this]
  exact ho
 ·intro i j t t' b hij ht ht' hb
  rcases hsl i t ht with ⟨hi,kt⟩ | ⟨hi,rfl⟩<;>rcases hsl j t' ht' with ⟨hj,kt'⟩ | ⟨hj,rfl⟩
  ·exact h.apart i j t t' b hij kt kt' hb
  ·rcases hs with hs | hs
   ·have:=h.block (List.mem_of_getElem? kt) hb
    intro hb'
    rw [hs] at hb';cases hb';omega
   rw [hs];exact fun e=>by cases e
  ·intro hb'
   rcases hs with hs | hs
   ·have:=h.block (List.mem_of_getElem? kt') hb'
    rw [hs] at hb;cases hb;omega
   rw [hs] at hb;cases hb
  omega
 ·intro b o u hu
  rcases hN b o u hu with h' | rfl
  ·have hb:=h.cV h'
   exact (World.cell?_alloc_lt (w:=w) (a:=⟨b,o,none⟩) (o:=x) hb).trans (h.mem b o u h')
  exact (hc o u hu).1
 ·intro b o u hu
  rcases hN b o u hu with h' | rfl
  ·exact h.one b o u h'
  exact (hc o u hu).2
 ·intro b o u hu
  rcases hN b o u hu with h' | rfl
  ·exact .inl h'
  exact .inr (.inr (Nat.le_refl _))
 intro t ht b hb
 simp only [Gh.push,List.mem_append,List.mem_singleton] at ht
 rcases ht with ht | rfl
 ·exact .inl ⟨t,ht,hb⟩
 rcases hs with hs | hs
 ·rw [hs] at hb;cases hb;exact .inr (Nat.le_refl _)
 rw [hs] at hb;cases hb
theorem ir {E:bA} {G:Gh} {st:aA} {w:World} (h:aG E G st w) {b:Nat} {arr:Array Value} {e:Nat} {fz:Nat × Nat} (hb:w.heap[b]? =some (.cells arr e fz)):
  ∃G',cj G G'∧aG E G' st w∧Ext G w G' w∧G'.slots=G.slots∧G'.M=G.M∧G'.sh b=some (e,arr.size):=by
 refine ⟨{slots:=G.slots,M:=G.M,sh:=fun k=>if k=b then some (e,arr.size) else G.sh k},?_⟩
 have hsh: ∀k x,G.sh k=some x→(if k=b then some (e,arr.size) else G.sh k)=some x:=fun k x hx=>by
  by_cases hk:k=b
  ·subst hk
   obtain ⟨e',n'⟩:=x
   obtain ⟨arr',fz',h1,h2⟩:=h.jU k e' n' hx
   rw [hb] at h1;cases h1
   rw [if_pos rfl,h2]
  rw [if_neg hk];exact hx
 have hg:cj G {slots:=G.slots,M:=G.M,sh:=fun k=>if k=b then some (e,arr.size) else G.sh k}:=
  ⟨hsh,fun _ _ _ h=>h,Nat.le_refl _,fun _ _ h=>.inl h,fun _ _ h=>.inl h,fun _ h=>h,fun _ b lo hi n h=>.inr ⟨b,lo,hi,n,h,Nat.le_refl _,fun _=>⟨rfl,rfl,rfl⟩⟩⟩
 refine ⟨hg,⟨h.len,fun i o s ho hs=>(h.obj i o s ho hs).keep hg (fun _ _=>rfl) fun _ _ _ _ hu=>hu,h.apart,h.mem,h.one,fun k e' n' hx=>?_,h.gG.mono hg⟩,⟨hg,rfl,rfl,rfl,Nat.le_refl _,fun _ _ _=>rfl,fun _ _ _ h=>.inl h,fun s hs _ hb=>.inl ⟨s,hs,hb⟩⟩,rfl,rfl,if_pos rfl⟩
 have hx':(if k=b then some (e,arr.size) else G.sh k)=some (e',n'):=hx
 by_cases hk:k=b
 ·subst hk
  rw [if_pos rfl] at hx'
  cases hx'
  exact ⟨arr,fz,hb,rfl⟩
 rw [if_neg hk] at hx'
 exact h.jU k e' n' hx'
theorem iB {E:bA} {G:Gh} {st:aA} {w:World} (h:aG E G st w) {cs:List AV} {us:List Value} (hr:aW G cs us) (e:TypeId) (rest:List Value) (fz:Nat × Nat)
  (hfz:Jy fz (us++rest).length):
  aG E (G.push (.box w.heap.size) G.M) (st++[.cells cs]) (w.alloc (.cells (us++rest).toArray e fz))∧
   Ext G w (G.push (.box w.heap.size) G.M) (w.alloc (.cells (us++rest).toArray e fz))∧
   (G.push (.box w.heap.size) G.M).slots[st.length]? =some (.box w.heap.size):=by
 have hnew: ∀o u,G.M w.heap.size o≠some u:=fun o u hu=>by have:=h.cV hu;omega
 have hl:=aj hr
 obtain ⟨a,b⟩:=oW h (o:=.cells cs) (s:=.box w.heap.size) (M:=G.M) (x:=.cells (us++rest).toArray e fz) (fun _ _ _ h=>h) (fun _ _ _ h=>.inl h)
  (fun o u hu=>absurd hu (hnew o u)) (.inl rfl) ⟨⟨(us++rest).toArray,e,fz,Array.getElem?_push_size,by simp;omega,by
   have:(us++rest).toArray.toList.take cs.length=us:=by simp [←hl]
   rw [this];exact aW.mono (cj.push fun _ _ _ h=>h) hr,by simpa using hfz⟩,hnew⟩
 exact ⟨a,b,by simp [Gh.push,←h.len]⟩
end Go.Proofs.YtcidnoghoifmmaaDoor.AW
