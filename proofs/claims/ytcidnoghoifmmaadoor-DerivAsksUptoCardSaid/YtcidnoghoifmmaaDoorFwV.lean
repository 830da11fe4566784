/-
  The abstract walk: statements that draw the order of their operations. (Third part: the walk in the order of the text is sound.)
-/
import Derived.Test.YtcidnoghoifmmaaDoorFwT
set_option linter.unusedSimpArgs false
set_option linter.unusedVariables false
namespace Go.Proofs.YtcidnoghoifmmaaDoor.AW
open Go

section
variable {P:Program} {E:bA} {B N:Nat} {ro:Option Nat} {mu:Nat→Bool} {ops:Array Oper}

theorem yo {G:Gh} {st:aA} {w:World} (h:aG E G st w):aG E (G.push .bB G.M) (st++[.bB]) w∧Ext G w (G.push .bB G.M) w:=by
 have hg:cj G (G.push .bB G.M):=cj.push fun _ _ _ h=>h
 have hsl: ∀(i:Nat) t,(G.push .bB G.M).slots[i]? =some t→(i<G.slots.length∧G.slots[i]? =some t)∨(i=G.slots.length∧t= .bB):=by
  intro i t ht
  simp only [Gh.push,List.getElem?_append] at ht
  split at ht
  ·rename_i hi;exact .inl ⟨hi,ht⟩
  rename_i hi
  right
  have:i-G.slots.length=0:=by
   rcases Nat.eq_zero_or_pos (i-G.slots.length) with h' | h'
   ·exact h'
   rw [List.getElem?_eq_none (by simp;omega)] at ht;cases ht
  rw [this] at ht
  simp at ht
  exact ⟨by omega,ht.symm⟩
 refine ⟨⟨by simp [Gh.push,h.len],?_,?_,h.mem,h.one,h.jU,h.gG.mono hg⟩,⟨hg,rfl,rfl,rfl,Nat.le_refl _,fun _ _ _=>rfl,fun b o u hu=>.inl hu,?_⟩⟩
 ·intro i o' t ho' ht
  rcases hsl i t ht with ⟨hi,ht'⟩ | ⟨hi,rfl⟩
  ·rw [getElem?_push_lt (by rw [←h.len];exact hi)] at ho'
   exact (h.obj i o' t ho' ht').keep hg (fun b hb=>rfl) fun b o u hb hu=>hu
  have:o'= .bB:=by
   rw [hi,h.len] at ho'
   simpa using ho'.symm
  rw [this]
  trivial
 ·intro i j t t' b hij ht ht' hb
  rcases hsl i t ht with ⟨hi,kt⟩ | ⟨hi,rfl⟩
  ·rcases hsl j t' ht' with ⟨hj,kt'⟩ | ⟨hj,rfl⟩
   ·exact h.apart i j t t' b hij kt kt' hb
   intro e;cases e
  cases hb
 intro t ht b hb
 simp only [Gh.push,List.mem_append,List.mem_singleton] at ht
 rcases ht with ht | rfl
 ·exact .inl ⟨t,ht,hb⟩
 cases hb
theorem oX: ∀(n:Nat) {G:Gh} {st:aA} {w:World},aG E G st w→ ∃G',aG E G' (st++List.replicate n .bB) w∧Ext G w G' w
  | 0,G,st,w,h=>⟨G,by simpa using h,Ext.refl G w⟩
  | n+1,G,st,w,h=>by
    obtain ⟨h1,h2⟩:=yo h
    obtain ⟨G',h3,h4⟩:=oX n h1
    refine ⟨G',?_,h2.trans h4⟩
    rw [List.append_assoc] at h3
    exact h3
theorem mK {G:Gh} {st:aA} {w:World} {id:Nat} {o:cz} {s:Slot} {M:Nat→Nat→Option Value} {x:Obj} (h:aG E G st w) (hi:st[id]? =some .bB)
  (hM: ∀b o u,G.M b o=some u→M b o=some u) (hN: ∀b o u,M b o=some u→G.M b o=some u∨b=w.heap.size)
  (hc: ∀o u,M w.heap.size o=some u→(w.alloc x).cell? ⟨w.heap.size,o,none⟩=some u∧u.oneCell'=true)
  (hs:s.blk=some w.heap.size) (ho:cj G {slots:=G.slots.set id s,M:=M,sh:=G.sh}→bl {slots:=G.slots.set id s,M:=M,sh:=G.sh} (w.alloc x) o s):
  aG E {slots:=G.slots.set id s,M:=M,sh:=G.sh} (st.set id o) (w.alloc x)∧Ext G w {slots:=G.slots.set id s,M:=M,sh:=G.sh} (w.alloc x)∧(G.slots.set id s)[id]? =some s:=by
 have hidl:id<G.slots.length:=by rw [h.len];exact aD hi
 have hslot:G.slots[id]? =some .bB:=by
  have ho:=h.obj id _ G.slots[id] hi (by simp [hidl])
  have hs:G.slots[id]? =some G.slots[id]:=by simp [hidl]
  rw [hs]
  generalize G.slots[id]=s at ho
  cases s<;>simp only [bl] at ho
  rfl
 have hheap: ∀b,b<w.heap.size→(w.alloc x).heap[b]? =w.heap[b]? :=fun b hb=>Go.RowKit.Below.heap_alloc w x b hb
 have hne: ∀ {j:Nat} {s:Slot},G.slots[j]? =some s→s≠ .bB→id≠j:=fun hs hn e=>by
  subst e;rw [hslot] at hs;cases hs;exact hn rfl
 have hg:cj G {slots:=G.slots.set id s,M:=M,sh:=G.sh}:=
  ⟨fun _ _ h=>h,hM,by simp,
   fun j b hb=>.inl (by simp only [];rw [List.getElem?_set_ne (hne hb (by simp))];exact hb),
   fun j b hb=>.inl (by simp only [];rw [List.getElem?_set_ne (hne hb (by simp))];exact hb),
   fun j hb=>by simp only [];rw [List.getElem?_set_ne (hne hb (by simp))];exact hb,
   fun j b lo hi n hb=>.inr ⟨b,lo,hi,n,by simp only [];rw [List.getElem?_set_ne (hne hb (by simp))];exact hb,Nat.le_refl _,fun _=>⟨rfl,rfl,rfl⟩⟩⟩
 have hsl: ∀(j:Nat) t,(G.slots.set id s)[j]? =some t→(j≠id∧G.slots[j]? =some t)∨(j=id∧t=s):=by
  intro j t hj
  by_cases e:id=j
  ·subst e
   rw [List.getElem?_set_self hidl] at hj
   cases hj
   exact .inr ⟨rfl,rfl⟩
  rw [List.getElem?_set_ne e] at hj
  exact .inl ⟨Ne.symm e,hj⟩
 refine ⟨⟨by simp [h.len],?_,?_,?_,?_,fun b e n hx=>(by
  have hb:=h.RQ hx
  obtain ⟨arr,fz,h1,h2⟩:=h.jU b e n hx
  exact ⟨arr,fz,by rw [hheap b hb];exact h1,h2⟩),h.gG.mono hg⟩,⟨hg,rfl,rfl,rfl,by simp,fun b hb _=>hheap b hb,?_,?_⟩,List.getElem?_set_self hidl⟩
 ·intro j o' t ho' ht
  rcases hsl j t ht with ⟨e,ht'⟩ | ⟨rfl,rfl⟩
  ·rw [List.getElem?_set_ne (Ne.symm e)] at ho'
   have hr:=h.obj j o' t ho' ht'
   refine hr.keep hg (fun b hb=>hheap b (hr.block hb)) fun b o u hb hu=>?_
   rcases hN b o u hu with h' | h'
   ·exact h'
   have:=hr.block hb;omega
  rw [List.getElem?_set_self (by rw [←h.len];exact hidl)] at ho'
  cases ho'
  exact ho hg
 ·intro i j t t' b hij ht ht' hb
  rcases hsl i t ht with ⟨e1,kt⟩ | ⟨rfl,rfl⟩<;>rcases hsl j t' ht' with ⟨e2,kt'⟩ | ⟨rfl,rfl⟩
  ·exact h.apart i j t t' b hij kt kt' hb
  ·have:=h.block (List.mem_of_getElem? kt) hb
   intro hb';rw [hs] at hb';cases hb';omega
  ·have e:b=w.heap.size:=by rw [hs] at hb;cases hb;rfl
   intro hb'
   have:=h.block (List.mem_of_getElem? kt') hb'
   omega
  exact absurd rfl hij
 ·intro b o u hu
  rcases hN b o u hu with h' | rfl
  ·exact (World.cell?_alloc_lt (w:=w) (a:=⟨b,o,none⟩) (o:=x) (h.cV h')).trans (h.mem b o u h')
  exact (hc o u hu).1
 ·intro b o u hu
  rcases hN b o u hu with h' | rfl
  ·exact h.one b o u h'
  exact (hc o u hu).2
 ·intro b o u hu
  rcases hN b o u hu with h' | rfl
  ·exact .inl h'
  exact .inr (.inr (Nat.le_refl _))
 intro t ht b hb
 obtain ⟨j,hj⟩:=List.getElem?_of_mem ht
 rcases hsl j t hj with ⟨_,ht'⟩ | ⟨_,rfl⟩
 ·exact .inl ⟨t,List.mem_of_getElem? ht',hb⟩
 rw [hs] at hb;cases hb;exact .inr (Nat.le_refl _)
theorem xh {G:Gh} {st:aA} {w:World} {id:Nat} {z:List AV} {t:TypeId} (h:aG E G st w) (hi:st[id]? =some .bB) (hz:zeroOf P t=some z):
  bN P E (Instr.alloc t true (.tuple #[])) w G (.ptr id 0) (st.set id (.cells z)):=by
 obtain ⟨i,z0,hi1,hz1,hz2,hz3,hz4⟩:=ez hz
 have hnew: ∀o u,G.M w.heap.size o≠some u:=fun o u hu=>by have:=h.cV hu;omega
 obtain ⟨h1,h2,h3⟩:=mK (o:=.cells z) (s:=.box w.heap.size) (M:=G.M) (x:=.cells z0.cells t (0,0)) h hi (fun _ _ _ h=>h) (fun _ _ _ h=>.inl h) (fun o u hu=>absurd hu (hnew o u)) rfl (fun hg=>by
  have hl:=aj (hz3 G)
  refine ⟨⟨z0.cells,t,(0,0),Array.getElem?_push_size,?_,?_,.inl rfl⟩,hnew⟩
  ·simp at hl;omega
  rw [List.take_of_length_le (by omega)]
  exact aW.mono hg (hz3 G))
 refine ⟨.pointer (some ⟨w.heap.size,0,none⟩),_,_,?_,?_,h1,h2⟩
 ·simp [Instr.alloc,hz4,newVar,newRow]
 simp only [aU,h3]
theorem DR {G:Gh} {st:aA} {w:World} {id:Nat} {t:TypeId} {kd:Option IntKind} (h:aG E G st w) (hi:st[id]? =some .bB):
  bN P E (Instr.makeMap t none) w G (.mp id) (st.set id (.map kd (fun _=>none) 0)):=by
 have hnew: ∀o u,G.M w.heap.size o≠some u:=fun o u hu=>by have:=h.cV hu;omega
 obtain ⟨h1,h2,h3⟩:=mK (o:=.map kd (fun _=>none) 0) (s:=.ia w.heap.size) (M:=G.M) (x:=.map #[] 0) h hi (fun _ _ _ h=>h) (fun _ _ _ h=>.inl h) (fun o u hu=>absurd hu (hnew o u)) rfl (fun hg=>
  ⟨⟨#[],0,Array.getElem?_push_size,oO kd⟩,hnew⟩)
 refine ⟨.map (some w.heap.size),_,_,?_,?_,h1,h2⟩
 ·simp [Instr.makeMap,newObj,Sem.run]
 simp only [aU,h3]
theorem wA {t e:TypeId} {G:Gh} {st:aA} {w:World} {id len es:Nat} {ag:Bool} {zs:List AV} {parts:Array (Nat × Operand)} {ps:List (Nat × Nat × AX)} {l:List (Nat × List AV)} {tm:Fr} {a:Act} (h:aG E G st w) (hi:st[id]? =some .bB) (hf:er G tm a)
  (ht:P.underlying t=some (.slice e)) (hz:zeroOf P e=some zs) (hp:ga P t parts.toList=some ps) (hsz:cx P e=some es) (hes:0<es) (hlim:len*es≤16777216) (hag:ag=true∨es=1) (hl:bY (len*es) ps tm=some l) (hone:(av (cJ zs len) l).all AV.one=true):
  bN P E (Instr.buildSlice t len (parts.map fun (i,x)=>(i,a.eval x))) w G (.sl es ((chunks es len (av (cJ zs len) l)).map (cC ag)) (some id)) (st.set id (.tail len)):=by
 obtain ⟨us',k2,hul,hrun⟩:=kR (w:=w) (G:=G) hf ht hz hp hsz hes hlim hl
 have hfl:(av (cJ zs len) l).length=us'.size:=by have:=aj k2;simp at this;omega
 have hnew: ∀o u,G.M w.heap.size o≠some u:=fun o u hu=>by have:=h.cV hu;omega
 let M:Nat→Nat→Option Value:=fun b o=>if b=w.heap.size then us'[o]? else G.M b o
 have hMsz: ∀o,M w.heap.size o=us'[o]? :=fun o=>if_pos rfl
 obtain ⟨h1,h2,h3⟩:=mK (o:=.tail len) (s:=.tail w.heap.size us'.size us'.size len) (M:=M) (x:=.cells us' e (0,0)) h hi
  (fun b o u hu=>by
   have hne:b≠w.heap.size:=fun e'=>hnew o u (e'▸hu)
   simp only [M,if_neg hne];exact hu)
  (fun b o u hu=>by
   by_cases hb:b=w.heap.size
   ·exact .inr hb
   simp only [M,if_neg hb] at hu;exact .inl hu)
  (fun o u hu=>by
   rw [hMsz] at hu
   exact ⟨by rw [World.cell?_alloc_mark];exact hu,ij k2 hone u (by simpa using Array.mem_of_getElem? hu)⟩) rfl
  (fun hg=>⟨rfl,Nat.le_refl _,⟨us',e,(0,0),Array.getElem?_push_size,Nat.le_refl _,.inl rfl,fun T h=>by cases h⟩,fun o u ho hu=>by
   have hu':M w.heap.size o=some u:=hu
   rw [hMsz,Array.getElem?_eq_none (by omega)] at hu';cases hu'⟩)
 refine ⟨_,_,_,hrun,?_,h1,h2⟩
 simp only [aU]
 have hlen: ∀(n:Nat) (cs:List AV),(chunks es n cs).length=n:=by
  intro n
  induction n with
  | zero=>intro cs;rfl
  | succ n ih=>intro cs;simp [chunks,ih]
 refine ⟨w.heap.size,0,len,?_,by simp [hlen],?_,by simp [hlen]⟩
 ·refine kM hes hag (aW.mono h2.g k2) hul hone fun j v hv=>?_
  rw [Nat.zero_add]
  show M w.heap.size j=some v
  rw [hMsz]
  simpa using hv
 simp only [gB,h3,List.length_map,hlen,Nat.zero_add]
 refine ⟨Nat.le_refl _,fun _=>⟨trivial,by omega,by omega,by simp⟩⟩
theorem uG {t e:TypeId} {G:Gh} {st:aA} {w:World} {id len es:Nat} {zs:List AV} {parts:Array (Nat × Operand)} {ps:List (Nat × Nat × AX)} {l:List (Nat × List AV)} {tm:Fr} {a:Act} (h:aG E G st w) (hi:st[id]? =some .bB) (hf:er G tm a)
  (ht:P.underlying t=some (.slice e)) (hz:zeroOf P e=some zs) (hp:ga P t parts.toList=some ps) (hsz:cx P e=some es) (hes:0<es) (hlim:len*es≤16777216) (hl:bY (len*es) ps tm=some l):
  bN P E (Instr.buildSlice t len (parts.map fun (i,x)=>(i,a.eval x))) w G (.row id es 0 len) (st.set id (.cells (av (cJ zs len) l))):=by
 obtain ⟨us',k2,hul,hrun⟩:=kR (w:=w) (G:=G) hf ht hz hp hsz hes hlim hl
 have hfl:(av (cJ zs len) l).length=us'.size:=by have:=aj k2;simp at this;omega
 have hnew: ∀o u,G.M w.heap.size o≠some u:=fun o u hu=>by have:=h.cV hu;omega
 obtain ⟨h1,h2,h3⟩:=mK (o:=.cells (av (cJ zs len) l)) (s:=.box w.heap.size) (M:=G.M) (x:=.cells us' e (0,0)) h hi (fun _ _ _ h=>h) (fun _ _ _ h=>.inl h) (fun o u hu=>absurd hu (hnew o u)) rfl (fun hg=>by
  refine ⟨⟨us',e,(0,0),Array.getElem?_push_size,?_,?_,.inl rfl⟩,hnew⟩
  ·omega
  rw [List.take_of_length_le (by simp;omega)]
  exact aW.mono hg k2)
 obtain ⟨G',g1,g2,g3,g4,g5,g6⟩:=ir h1 (b:=w.heap.size) Array.getElem?_push_size
 refine ⟨_,_,G',hrun,?_,g2,h2.trans g3⟩
 simp only [aU,g4,h3]
 exact ⟨len,_,_,Nat.le_refl _,g6,by rw [Nat.zero_add];omega,by simp⟩
theorem kB {op:BinOp} {t:TypeId} {x y:AX} {i:AI} (hb:AK.born (.plain i)=true):nr P op t x y≠some i:=by
 intro h
 unfold nr at h
 repeat' (first | split at h | (simp only [Option.some.injEq] at h;subst h;simp [AK.born] at hb;done) | (cases h;done))
theorem gq {c:Call} {i:AI} {mu:Bool} (hb:AK.born (.plain i)=true):ja P mu c≠some i:=by
 intro h
 unfold ja at h
 repeat' (first | split at h | (simp only [Option.some.injEq] at h;subst h;simp [AK.born] at hb;done) | (cases h;done) | (simp only [Option.bind_eq_some_iff] at h;obtain ⟨_,_,h⟩:=h))
theorem lO {m:Bool} {op:Op} {i:AI} (hb:AK.born (.plain i)=true) (h:gV P m op=some (.plain i)):comp P m op=some i:=by
 cases op
 case call c=>
  exfalso
  simp only [gV] at h
  repeat' (first | (simp only [Option.some.injEq,AK.plain.injEq] at h;subst h;simp [AK.born] at hb;done) | (cases h;done) | (simp only [Option.some.injEq,reduceCtorEq] at h;done) | (simp only [Option.map_eq_some_iff,AK.plain.injEq,exists_eq_right] at h;exact gq hb h) | split at h)
 all_goals
  simp only [gV,Option.map_eq_some_iff,AK.plain.injEq,exists_eq_right] at h
  exact h
theorem Af {m:Bool} {op:Op} {z:List AV} (h:comp P m op=some (.alloc z)): ∃t,op= .alloc t∧zeroOf P t=some z:=by
 unfold comp at h
 split at h
 case h_4=>
  rename_i t
  simp only [Option.map_eq_some_iff] at h
  obtain ⟨z',hz,e⟩:=h
  split at e
  ·cases e
  cases e;exact ⟨_,rfl,hz⟩
 all_goals (exfalso;(repeat' (first | exact gq rfl h | exact kB rfl h | (cases h;done) | (simp only [Option.some.injEq,reduceCtorEq] at h;done) | (simp only [Option.map_eq_some_iff,reduceCtorEq,and_false,exists_false] at h;done) | split at h));done)
theorem Ag {m:Bool} {op:Op} {kd:Option IntKind} (h:comp P m op=some (.fI kd)): ∃t,op= .makeMap t none:=by
 unfold comp at h
 split at h
 all_goals first
  | exact ⟨_,rfl⟩
  | (exfalso;(repeat' (first | exact gq rfl h | exact kB rfl h | (cases h;done) | (simp only [Option.some.injEq,reduceCtorEq] at h;done) | (simp only [Option.map_eq_some_iff,reduceCtorEq,and_false,exists_false] at h;done) | split at h));done)
theorem xx {m mu:Bool} {op:Op} {es len:Nat} {ag:Bool} {zs:List AV} {ps:List (Nat × Nat × AX)} (h:comp P m op=some (.bE es len ag zs ps mu)):
  ∃t e parts,op= .buildSlice t len parts∧P.underlying t=some (.slice e)∧zeroOf P e=some zs∧ga P t parts.toList=some ps∧cx P e=some es∧0<es∧len*es≤16777216∧(ag=true∨es=1):=by
 unfold comp at h
 split at h
 all_goals first
  | (exfalso;(repeat' (first | exact gq rfl h | exact kB rfl h | (cases h;done) | (simp only [Option.some.injEq,reduceCtorEq] at h;done) | (simp only [Option.map_eq_some_iff,reduceCtorEq,and_false,exists_false] at h;done) | split at h));done)
  | skip
 split at h
 ·split at h
  ·split at h
   ·rename_i hcond
    cases m
    ·simp only [Bool.false_eq_true,if_false] at h
     cases h
     exact ⟨_,_,_,rfl,by assumption,by assumption,by assumption,by assumption,hcond.1,hcond.2.1,hcond.2.2⟩
    simp only [if_true] at h
    cases h
   cases h
  cases h
 cases h
theorem jZ {s s':aA} (h:cY.none.app s=some s'):s'=s:=by
 simp only [cY.app,cY.id,Option.some.injEq] at h
 exact h.symm
theorem rJ {E:bA} {G:Gh} {st:aA} {w:World} (h:aG E G st w) (id:Nat):st[id]? ≠some .lost:=fun e=>by
 have hl:id<G.slots.length:=by rw [h.len];exact aD e
 have:=h.obj id _ G.slots[id] e (by simp [hl])
 generalize G.slots[id]=s at this
 cases s<;>exact this
theorem nh {s s':aA} {id:Nat} {o:cz} (hn:s[id]? ≠some .lost) (h:(cY.born id o).app s=some s'):s[id]? =some .bB∧s'=s.set id o:=by
 simp only [cY.app,cY.id] at h
 split at h
 ·rename_i x hx
  simp only [Option.map_eq_some_iff,cY.gS] at h
  obtain ⟨y,hy,rfl⟩:=h
  cases x<;>simp only [reduceCtorEq,Option.some.injEq] at hy
  ·subst hy
   exact ⟨hx,rfl⟩
  exact absurd hx hn
 cases h
theorem DL {st s:aA} {id:Nat} {o:cz} (hA:Agree st s) (h: ∀x,st[id]? =some x→x.live=false) (hh:st[id]? =some .hid→ ∃cs,o= .cells cs):Agree st (s.set id o):=by
 refine ⟨fun i x hx hl=>?_,fun i hx=>?_⟩
 ·by_cases e:id=i
  ·subst e;rw [h x hx] at hl;cases hl
  rw [List.getElem?_set_ne e];exact hA.l i x hx hl
 by_cases e:id=i
 ·subst e
  obtain ⟨cs,rfl⟩:=hh hx
  obtain ⟨cs',h'⟩:=hA.hid _ hx
  exact ⟨cs,List.getElem?_set_self (aD h')⟩
 rw [List.getElem?_set_ne e];exact hA.hid i hx
theorem DQ {st s s':aA} {mr r:Nat} {k:AK} {tm:Fr} {v:AV} {e:cY} (hA:Agree st s) (hy:qv P E st mr r k tm v e) (h:e.app s=some s'):Agree st s':=by
  have far: ∀(n:Nat) (x:cz),st[st.length+n]? =some x→x.live=false:=fun n x hx=>by
    rw [List.getElem?_eq_none (by omega)] at hx;cases hx
  have far2: ∀(n:Nat),st[st.length+n]? =some .hid→False:=fun n hx=>by
    rw [List.getElem?_eq_none (by omega)] at hx;cases hx
  have gen: ∀id,e.id=some id→(∀x,st[id]? =some x→x.live=false)→(∀x y,e.gS x=some y→st[id]? =some .hid→ ∃cs,y= .cells cs)→Agree st s':=by
    intro id hid hd hy2
    unfold cY.app at h
    rw [hid] at h
    simp only at h
    split at h
    · simp only [Option.map_eq_some_iff] at h
      obtain ⟨y,hy3,rfl⟩:=h
      exact DL hA hd (hy2 _ _ hy3)
    cases h
  cases k with
  | plain i=>
    cases i<;>simp only [qv] at hy
    case alloc z=>obtain ⟨_,rfl⟩:=hy;exact gen _ rfl (far _) fun _ _ _ hx=>(far2 _ hx).elim
    case fI kd=>obtain ⟨_,rfl⟩:=hy;exact gen _ rfl (far _) fun _ _ _ hx=>(far2 _ hx).elim
    case bE es len ag zero parts mu=>
      obtain ⟨l,_,⟨_,_,_,rfl⟩ | ⟨_,_,rfl⟩⟩:=hy
      · exact gen _ rfl (far _) fun _ _ _ hx=>(far2 _ hx).elim
      exact gen _ rfl (far _) fun _ _ _ hx=>(far2 _ hx).elim
    case store n a x=>obtain ⟨id,off,_,hd,_,rfl⟩:=hy;exact gen _ rfl (fun x hx=>by rw [hd] at hx;cases hx;rfl) fun x y hxy _=>(by
      simp only [cY.gS] at hxy
      split at hxy
      · split at hxy
        · cases hxy;exact ⟨_,rfl⟩
        cases hxy
      cases hxy)
    case cu kd m q x=>obtain ⟨c,_,_,_,rfl⟩:=hy;exact gen _ rfl (far _) fun _ _ _ hx=>(far2 _ hx).elim
    case CI x=>obtain ⟨_,_,_,_,_,_,_,rfl⟩:=hy;rw [(rB h).1];exact hA
    all_goals (obtain ⟨_,_,rfl⟩:=hy;rw [jZ h];exact hA)
  | call f as=>obtain ⟨_,rfl⟩:=hy;rw [jZ h];exact hA
  | fH f as=>
    obtain ⟨_,_,_,c,id,o,_,_,hle,_,rfl⟩:=hy
    obtain ⟨q,rfl⟩: ∃q,id=st.length+q:=⟨id-st.length,by omega⟩
    exact gen _ rfl (far _) fun _ _ _ hx=>(far2 _ hx).elim
section
variable {o:Oper} {m:Bool} {G:Gh} {tm:Fr} {st s s':aA} {mr r:Nat} {v:AV} {e:cY} {a:Act} {w:World} {next:Act→World→Prop} {Q:Exit→Act→World→Prop}

theorem rH {sm:Sem Value} (hnd: ∀c,o.op≠ .defer c) (hn: ∀u G' w',aU G' v u→aG E G' s' w'→Ext G w G' w'→next (a.put o.dst u) w') (hex:execOp a.eval o=(do pure (Next.value (←sm)))) (hr:bN P E sm w G v s'):o.wpIn (jW ro) 0 P a w next Q:=by
 obtain ⟨u,w',G',hr,h1,h2,h3⟩:=hr
 refine ov hnd ?_
 rw [hex]
 simp only [Sem.run_bind,hr,Result.andThen_ok,Sem.run_pure,Oper.uponIn]
 exact hn u G' w' h1 h2 h3
theorem iw {k:AK} (h:Rel B N E G tm s a w) (hc:gV P m o.op=some k) (hn: ∀u G' w',aU G' v u→aG E G' s' w'→Ext G w G' w'→next (a.put o.dst u) w') (hx:zV P E k tm s (fun v' st'=>v'=v∧st'=s')):o.wpIn (jW ro) 0 P a w next Q:=
 vL (K:=fun v' st'=>v'=v∧st'=s') h hc hx fun u v' st' G' w' h1 h2 h3 ⟨e1,e2⟩=>by subst e1;subst e2;exact hn u G' w' h1 h2 h3
theorem ow {i:AI} (he:aE E tm s i=some (v,s')):zV P E (.plain i) tm s (fun v' st'=>v'=v∧st'=s'):=by
 simp only [zV,he,and_self]
theorem JS {n:Nat} {a' x:AX} {id off:Nat} (h1:tm.x a'= .ptr id off) (ha:(cY.put id off n (tm.x x).cells).app s=some s'):aE E tm s (.store n a' x)=some (.bt [],s'):=by
 simp only [cY.app,cY.id] at ha
 split at ha
 ·rename_i o' ho'
  simp only [Option.map_eq_some_iff,cY.gS] at ha
  obtain ⟨y,hy,rfl⟩:=ha
  cases o'<;>simp only [reduceCtorEq] at hy
  split at hy
  ·rename_i hcond
   cases hy
   simp only [aE,h1,ho']
   rw [if_pos hcond]
  cases hy
 cases ha
theorem Ip {kd:Option IntKind} {m' q x:AX} {id:Nat} {c:Key} (h1:tm.x m'= .mp id) (h2:keyOf kd (tm.x q)=some c) (ha:(cY.ins id kd c (tm.x x)).app s=some s'):aE E tm s (.cu kd m' q x)=some (.bt [],s'):=by
 simp only [cY.app,cY.id] at ha
 split at ha
 ·rename_i o' ho'
  simp only [Option.map_eq_some_iff,cY.gS] at ha
  obtain ⟨y,hy,rfl⟩:=ha
  cases o'<;>simp only [reduceCtorEq] at hy
  split at hy
  ·rename_i hcond
   cases hy
   simp only [aE,h1,h2,ho']
   rw [if_pos hcond.1]
   simp only [hcond.2,if_true]
  cases hy
 cases ha
theorem HW {z:List AV} (h:Rel B N E G tm s a w) (hc:gV P m o.op=some (.plain (.alloc z))) (hu:s[r]? =some .bB) (hn: ∀u G' w',aU G' (.ptr r 0) u→aG E G' (s.set r (.cells z)) w'→Ext G w G' w'→next (a.put o.dst u) w'):o.wpIn (jW ro) 0 P a w next Q:=by
 obtain ⟨t,hop,hz⟩:=Af (lO rfl hc)
 exact rH (jS hc) hn (by simp only [execOp,hop]) (xh h.st hu hz)
theorem JH {kd:Option IntKind} (h:Rel B N E G tm s a w) (hc:gV P m o.op=some (.plain (.fI kd))) (hu:s[r]? =some .bB) (hn: ∀u G' w',aU G' (.mp r) u→aG E G' (s.set r (.map kd (fun _=>none) 0)) w'→Ext G w G' w'→next (a.put o.dst u) w'):o.wpIn (jW ro) 0 P a w next Q:=by
 obtain ⟨t,hop⟩:=Ag (lO rfl hc)
 exact rH (sm:=Instr.makeMap t none) (jS hc) hn (by simp only [execOp,hop,Option.map_none]) (DR h.st hu)
def ua (P:Program) (op:Op) (es len:Nat) (ag:Bool) (zs:List AV) (ps:List (Nat × Nat × AX)):Prop:= ∃t e parts,op= .buildSlice t len parts∧P.underlying t=some (.slice e)∧zeroOf P e=some zs∧ga P t parts.toList=some ps∧cx P e=some es∧0<es∧len*es≤16777216∧(ag=true∨es=1)
theorem yy {op:Op} {i:AI} (h:kN P op=some i): ∃es len ag zs ps,i= .bE es len ag zs ps true∧ua P op es len ag zs ps:=by
 cases op<;>simp only [kN,reduceCtorEq] at h
 split at h
 ·rename_i e ht
  split at h
  ·rename_i z q s g h1 h2 h3 h4
   split at h
   ·rename_i hc
    cases h
    exact ⟨_,_,_,_,_,rfl,_,_,_,rfl,ht,h1,h2,h3,hc.1,hc.2.1,hc.2.2⟩
   cases h
  cases h
 cases h
theorem ua.Cd {op:Op} {es len:Nat} {ag:Bool} {zs:List AV} {ps:List (Nat × Nat × AX)} (h:ua P op es len ag zs ps): ∀c,op≠ .defer c:=fun c e=>by
 obtain ⟨_,_,_,hop,_⟩:=h
 rw [e] at hop;cases hop
theorem DX {es len:Nat} {ag:Bool} {zs:List AV} {ps:List (Nat × Nat × AX)} {l:List (Nat × List AV)} (h:Rel B N E G tm s a w) (hL:ua P o.op es len ag zs ps) (hu:s[r]? =some .bB) (hl:bY (len*es) ps tm=some l) (hone:(av (cJ zs len) l).all AV.one=true)
  (hn: ∀u G' w',aU G' (.sl es ((chunks es len (av (cJ zs len) l)).map (cC ag)) (some r)) u→aG E G' (s.set r (.tail len)) w'→Ext G w G' w'→next (a.put o.dst u) w'):o.wpIn (jW ro) 0 P a w next Q:=by
 obtain ⟨t,e,parts,hop,ht,hz,hp,hsz,hes,hlim,hor⟩:=id hL
 exact rH hL.Cd hn (by simp only [execOp,hop]) (@wA P E t e G s w r len es ag zs parts ps l tm a h.st hu h.fr ht hz hp hsz hes hlim hor hl hone)
theorem AZ {es len:Nat} {ag:Bool} {zs:List AV} {ps:List (Nat × Nat × AX)} {l:List (Nat × List AV)} (h:Rel B N E G tm s a w) (hL:ua P o.op es len ag zs ps) (hu:s[r]? =some .bB) (hl:bY (len*es) ps tm=some l)
  (hn: ∀u G' w',aU G' (.row r es 0 len) u→aG E G' (s.set r (.cells (av (cJ zs len) l))) w'→Ext G w G' w'→next (a.put o.dst u) w'):o.wpIn (jW ro) 0 P a w next Q:=by
 obtain ⟨t,e,parts,hop,ht,hz,hp,hsz,hes,hlim,hor⟩:=id hL
 exact rH hL.Cd hn (by simp only [execOp,hop]) (uG h.st hu h.fr ht hz hp hsz hes hlim hl)
theorem ux {es len:Nat} {ag mu:Bool} {zs:List AV} {ps:List (Nat × Nat × AX)} (h:Rel B N E G tm s a w) (hL:ua P o.op es len ag zs ps)
  (hy:qv P E st mr r (.plain (.bE es len ag zs ps mu)) tm v e) (ha:e.app s=some s') (hn: ∀u G' w',aU G' v u→aG E G' s' w'→Ext G w G' w'→next (a.put o.dst u) w'):o.wpIn (jW ro) 0 P a w next Q:=by
 obtain ⟨l,hl,⟨_,hone,rfl,rfl⟩ | ⟨_,rfl,rfl⟩⟩:=hy
 ·obtain ⟨hu,rfl⟩:=nh (rJ h.st _) ha
  exact DX h hL hu hl hone hn
 obtain ⟨hu,rfl⟩:=nh (rJ h.st _) ha
 exact AZ h hL hu hl hn
theorem JW {k:AK} (h:Rel B N E G tm s a w) (hA:Agree st s) (hc:gV P m o.op=some k)
    (hy:qv P E st mr r k tm v e) (ha:e.app s=some s') (hn: ∀u G' w',aU G' v u→aG E G' s' w'→Ext G w G' w'→next (a.put o.dst u) w'):o.wpIn (jW ro) 0 P a w next Q:=by
  cases k with
  | plain i=>
    cases i
    case alloc z=>
      obtain ⟨rfl,rfl⟩:=hy
      obtain ⟨hu,rfl⟩:=nh (rJ h.st _) ha
      exact HW h hc hu hn
    case fI kd=>
      obtain ⟨rfl,rfl⟩:=hy
      obtain ⟨hu,rfl⟩:=nh (rJ h.st _) ha
      exact JH h hc hu hn
    case bE es len ag zero parts mu=>exact ux h (xx (lO rfl hc)) hy ha hn
    case store n a' x=>
      obtain ⟨id,off,h1,h2,rfl,rfl⟩:=hy
      exact iw h hc hn (ow (JS h1 ha))
    case cu kd m' q x=>
      obtain ⟨c,h1,h2,rfl,rfl⟩:=hy
      exact iw h hc hn (ow (Ip h1 h2 ha))
    case CI x=>
      obtain ⟨n,es,xs,id,rfl,h2,rfl,rfl⟩:=hy
      obtain ⟨rfl,hs⟩:=rB ha
      rcases hs with hs | hs
      · exfalso
        have hr:=h.fr n
        rw [h2] at hr
        have hl:id<G.slots.length:=by rw [h.st.len];exact aD hs
        have ho:=h.st.obj id _ G.slots[id] hs (by simp [hl])
        have hsl:G.slots[id]? =some G.slots[id]:=by simp [hl]
        simp only [aU] at hr
        obtain ⟨b,o',c,_,_,ht,_⟩:=hr
        simp only [gB,hsl] at ht
        generalize G.slots[id]=sl at ho ht
        cases sl<;>simp only [bl] at ho ht
      refine iw h hc hn (ow ?_)
      simp only [aE,Fr.x,h2,hs,if_true]
    all_goals
      obtain ⟨hs,he,rfl⟩:=hy
      rw [jZ ha] at hn
      exact iw h hc hn (ow (Dg hA hs he).2)
  | call f as=>
    obtain ⟨h1,rfl⟩:=hy
    rw [jZ ha] at hn
    rcases h1 with ⟨h1,h2⟩ | h1
    · exact iw h hc hn (vQ h2 h1 rfl ⟨rfl,rfl⟩)
    exact iw h hc hn (h1 s hA)
  | fH f as=>
    obtain ⟨g,rfl,hcb,c,id,ob,hmem,htm,_,hk,rfl⟩:=hy
    simp only [cY.app,cY.id] at ha
    split at ha
    · rename_i x hx
      simp only [Option.map_eq_some_iff] at ha
      obtain ⟨y,hy,rfl⟩:=ha
      by_cases hux:x= .bB
      · exfalso
        subst hux
        have hr:=h.fr c
        have hl:id<G.slots.length:=by rw [h.st.len];exact aD hx
        have ho:=h.st.obj id _ G.slots[id] hx (by simp [hl])
        have hsl:G.slots[id]? =some G.slots[id]:=by simp [hl]
        rcases htm with ⟨es,xs,htm⟩ | ⟨es,q,n,htm⟩
        · rw [htm] at hr
          simp only [aU] at hr
          obtain ⟨b,o',c,_,_,ht,_⟩:=hr
          simp only [gB,hsl] at ht
          generalize G.slots[id]=sl at ho ht
          cases sl<;>simp only [bl] at ho ht
        rw [htm] at hr
        simp only [aU,hsl] at hr
        generalize G.slots[id]=sl at ho hr
        cases sl<;>simp only [bl] at ho hr
      have hy':oL ob x=some y:=by
        cases x<;>first | exact hy | exact absurd rfl hux
      obtain ⟨rfl,_,rfl⟩:=hU hy'
      refine iw h hc hn ?_
      simp only [zV,Fr.x,List.append_nil]
      exact ⟨hcb,hk s hx⟩
    cases ha
theorem Dt {k:AK} (h:Rel B N E G tm s a w) (hA:Agree st s) (hc:gV P m o.op=some k∨ ∃i,kN P o.op=some i∧k= .plain i)
  (hy:qv P E st mr r k tm v e) (ha:e.app s=some s') (hn: ∀u G' w',aU G' v u→aG E G' s' w'→Ext G w G' w'→next (a.put o.dst u) w'):o.wpIn (jW ro) 0 P a w next Q:=by
 rcases hc with hc | ⟨i,hc,rfl⟩
 ·exact JW h hA hc hy ha hn
 obtain ⟨es,len,ag,zs,ps,rfl,hL⟩:=yy hc
 exact ux h hL hy ha hn
end

theorem DN {al:List bZ} {nq m:Nat} {st:aA} {K:Fr→aA→Prop} {Q:Exit→Act→World→Prop} {G0:Gh} {w0:World} (hal:ops.toList.mapM (iI P N mu ops)=some al)
    (hend: ∀G' tm' s' a' w',Rel B N E G' tm' s' a' w'→Ext G0 w0 G' w'→K tm' s'→wpAnyIn (jW ro) 0 P .any ops Q m (dR ops.size nq) a' w'):
    ∀(f:Nat) (L:Array Bool) (tm:Fr) (s:aA) (G:Gh) (a:Act) (w:World),Rel B N E G tm s a w→Agree st s→Ext G0 w0 G w→AQ P E ops st al nq K f L tm s→wpAnyIn (jW ro) 0 P .any ops Q (f+m) L a w:=by
  intro f
  induction f with
  | zero=>
    intro L tm s G a w h hA hext hx
    obtain ⟨rfl,hk⟩:=hx
    rw [Nat.zero_add]
    exact hend G tm s a w h hext hk
  | succ f ih=>
    intro L tm s G a w h hA hext hx
    rw [show f+1+m=(f+m)+1 by omega]
    refine ⟨fun e=>absurd e hx.1,fun i hi=>?_⟩
    obtain ⟨hin,x,hxi,v,e,s',hy,ha,hx'⟩:=hx.2 i hi
    obtain ⟨hun,o,ho,_⟩:=mem_ready.1 hi
    obtain ⟨x',hx1,hxo⟩:=mq hal i o (by simpa using ho)
    rw [hxi] at hx1;cases hx1
    obtain ⟨hdst,hdn,hcomp,hg⟩:=tD hxo
    have go: ∀(u:Value) (v:AV) (s':aA) (G':Gh) (w':World),Agree st s'→aU G' v u→aG E G' s' w'→Ext G w G' w'→AQ P E ops st al nq K f (L.setIfInBounds i true) (tm.put x.dst v) s'→
        wpAnyIn (jW ro) 0 P .any ops Q (f+m) (L.setIfInBounds i true) (a.put o.dst u) w':=by
      intro u v s' G' w' hA' h1 h2 h3 h4
      refine ih _ (tm.put x.dst v) s' G' (a.put o.dst u) w' ?_ hA' (hext.trans h3) h4
      rw [hdst]
      exact (h.ext h3 h2).put hdn h1
    have run:qv P E st (lX al) (vJ al i) x.ins tm v e→o.wpIn (jW ro) 0 P a w (wpAnyIn (jW ro) 0 P .any ops Q (f+m) (L.setIfInBounds i true)) Q:=fun hq=>
      Dt h hA hcomp hq ha fun u G' w' h1 h2 h3=>go u v s' G' w' (DQ hA hq ha) h1 h2 h3 hx'
    unfold wpOpIn
    rw [ho]
    simp only []
    unfold yv at hy
    rcases hg with ⟨g1,g2⟩ | ⟨j,b,d,g1,gj,g2⟩
    · rw [g2] at hy
      rw [if_pos (by simp [Region.wanted,g1])]
      exact run hy
    rw [g2] at hy
    simp only at hy
    split at hy
    · rename_i t ht
      have hd:=h.fr d
      rw [ht] at hd
      simp only [aU] at hd
      have hyd:yielded ops a.tmps j=some t:=by
        have hlt:d<a.tmps.size:=by
          rcases Nat.lt_or_ge d a.tmps.size with h' | h'
          · exact h'
          exfalso
          simp [Array.getElem?_eq_none h',undef] at hd
        have:a.tmps[d]? =some (.bool t):=by
          simp [hlt] at hd ⊢
          exact hd
        simp [yielded,gj,this]
      split at hy
      · rename_i hb
        rw [if_pos (by simp [Region.wanted,g1,hyd,hb])]
        exact run hy
      rename_i hb
      rw [if_neg (by simp [Region.wanted,g1,hyd,hb])]
      refine ⟨fun _ _=>trivial,?_⟩
      obtain ⟨rfl,rfl⟩:=hy
      rw [jZ ha] at hx'
      exact go undef (.bt []) s G w hA (ji G) h.st (Ext.refl G w) hx'
    · rename_i vs ht
      have hd:=h.fr d
      rw [ht] at hd
      simp only [aU] at hd
      obtain ⟨us,_,hd⟩:=hd
      have hyd:yielded ops a.tmps j=none:=by
        have:a.tmps[d]? =none∨a.tmps[d]? =some (.tuple us.toArray):=by
          rcases Nat.lt_or_ge d a.tmps.size with h' | h'
          · right;simp [h'] at hd ⊢;exact hd
          left;exact Array.getElem?_eq_none h'
        rcases this with this | this<;>simp [yielded,gj,this]
      rw [if_neg (by simp [Region.wanted,g1,hyd])]
      refine ⟨fun _ _=>trivial,?_⟩
      obtain ⟨rfl,rfl⟩:=hy
      rw [jZ ha] at hx'
      exact go undef (.bt []) s G w hA (ji G) h.st (Ext.refl G w) hx'
    exact hy.elim
theorem BA {al:List bZ} {nq:Nat} {Q:Exit→Act→World→Prop} (hd:gJ ops al nq=true): ∀(m k:Nat) (a:Act) (w:World),k+m=ops.size→nq≤k→wpListIn (jW ro) 0 P ops Q (ops.toList.drop k) a w→wpAnyIn (jW ro) 0 P .any ops Q m (dR ops.size k) a w:=by
  simp only [gJ,Bool.and_eq_true,decide_eq_true_eq,List.all_eq_true,List.mem_range,Bool.or_eq_true,beq_iff_eq,List.isEmpty_iff] at hd
  obtain ⟨⟨⟨⟨⟨d1,d2⟩,d3⟩,d4⟩,d5⟩,d6⟩:=hd
  intro m
  induction m with
  | zero=>
    intro k a w hk hn h
    have:k=ops.size:=by omega
    subst this
    rw [List.drop_of_length_le (by simp)] at h
    exact ⟨d6,h⟩
  | succ m ih=>
    intro k a w hk hn h
    have hr:Region.ready .any ops (dR ops.size k)=[k]:=(d5 k (by omega)).resolve_left (by omega)
    refine ⟨fun e=>(by rw [hr] at e;cases e),fun i hi=>?_⟩
    rw [hr,List.mem_singleton] at hi
    subst hi
    have hlt:i<ops.size:=by omega
    have ho:ops[i]? =some ops[i]:=by simp [hlt]
    rw [List.drop_eq_getElem_cons (by simpa using hlt)] at h
    unfold wpOpIn
    rw [ho]
    simp only []
    unfold wpListIn at h
    simp only [Array.getElem_toList] at h
    split
    · rename_i hw
      rw [if_pos hw] at h
      exact Oper.wpIn_mono (fun a w h=>ih (i+1) a w (by omega) (by omega) h) h
    rename_i hw
    rw [if_neg hw] at h
    exact ⟨h.1,ih (i+1) _ w (by omega) (by omega) h.2⟩
theorem pW (b:Bool): ∀(al:List bZ),lz b al≤al.length
  | []=>by simp [lz]
  | o::l=>by
    have:=pW b l
    rw [lz]
    generalize (o.quiet&&_)=c
    cases c
    · simp
    simp only [if_true,List.length_cons];omega
theorem pV: ∀(al:List bZ),lu al≤al.length
  | []=>by simp [lu]
  | o::l=>by
    have:=pV l
    rw [lu]
    generalize (o.quiet&&_)=c
    cases c
    · simp
    simp only [if_true,List.length_cons];omega
theorem uz {α β :Type} {f: α →Option β}: ∀ {l:List α} {l':List β} (n:Nat),l.mapM f=some l'→(l.drop n).mapM f=some (l'.drop n)
  | l,l',0,h=>by simpa using h
  | [],l',n+1,h=>by simp at h;subst h;simp
  | x::l,l',n+1,h=>by
    simp only [List.mapM_cons,Option.bind_eq_bind,Option.bind_eq_some_iff,Option.pure_def,Option.some.injEq] at h
    obtain ⟨y,hy,ys,hys,rfl⟩:=h
    simpa using uz n hys
def qO:List bZ→Nat
 | []=>0
 | o::l=>fK o+qO l

theorem kJ: ∀(l:List AV) (st s:aA),Agree st s→Agree (jf l st) s
  | [],st,s,h=>h
  | v::l,st,s,hA=>by
    cases v
    case ptr id off=>
      simp only [jf]
      split
      · rename_i hal
        refine kJ l _ s ⟨fun i o hi hl=>?_,fun i hi=>?_⟩
        · by_cases e:id=i
          · subst e
            rw [List.getElem?_set] at hi
            simp only [if_true] at hi
            split at hi
            · cases hi;cases hl
            cases hi
          rw [List.getElem?_set_ne e] at hi;exact hA.l i o hi hl
        by_cases e:id=i
        · subst e
          unfold vr at hal
          split at hal
          · rename_i cs hc;exact ⟨cs,hA.l _ _ hc rfl⟩
          cases hal
        rw [List.getElem?_set_ne e] at hi;exact hA.hid i hi
      exact kJ l st s hA
    all_goals exact kJ l st s hA
theorem xz {al:List bZ} {nq:Nat} (sas:List AX) (hnq:nq≤al.length) {G:Gh} {tm:Fr} {st:aA} {a:Act} {w:World} {K:Fr→aA→Prop} {Q:Exit→Act→World→Prop} (hal:ops.toList.mapM (iI P N mu ops)=some al) (hd:gJ ops al nq=true)
  (h:Rel B N E G tm st a w) (hx:eP P E (jf (sas.map tm.x) st) (lX al) (al.take nq) 0 (fun tm' s=>eY P E (al.drop nq) K tm' s) tm (st++List.replicate (qO (al.take nq)) .bB))
  (hq: ∀G' tm' st' a' w',Rel B N E G' tm' st' a' w'→Ext G w G' w'→K tm' st'→Q .normal a' w'):wpAnyIn (jW ro) 0 P .any ops Q ops.size (Array.replicate ops.size false) a {w with drawn:=w.drawn+1}:=by
 have hd':=hd
 simp only [gJ,Bool.and_eq_true,decide_eq_true_eq] at hd'
 obtain ⟨⟨⟨⟨⟨d1,d2⟩,_⟩,_⟩,_⟩,_⟩:=hd'
 have hcl:jn ops (dR ops.size 0):=fun x o _ hx=>by
  exfalso
  simp only [dR] at hx
  rcases Nat.lt_or_ge x ops.size with h' | h'
  ·simp [h'] at hx
  rw [Array.getD_eq_getD_getElem?,Array.getElem?_eq_none (by simpa using h')] at hx;simp at hx
 have hany:AQ P E ops (jf (sas.map tm.x) st) al nq (fun tm' s=>eY P E (al.drop nq) K tm' s) (al.take nq).length (dR ops.size 0) tm (st++List.replicate (qO (al.take nq)) .bB):=by
  refine xY hd (al.take nq) 0 tm _ (fun j=>?_) (by simp;omega) hcl ?_
  ·rw [List.getElem?_take];simp only [Nat.zero_add]
  have:vJ al 0=0:=by cases al<;>rfl
  rw [this];exact hx
 have hlen:(al.take nq).length=nq:=by simp;omega
 rw [hlen] at hany
 obtain ⟨G1,hs1,hext1⟩:=oX (qO (al.take nq)) (h.st.drew (w.drawn+1))
 have hrel:Rel B N E G1 tm (st++List.replicate (qO (al.take nq)) .bB) a {w with drawn:=w.drawn+1}:=⟨h.size,h.defers.ext (((Ext.refl G w).drew (w.drawn+1)).trans hext1),h.fr.mono hext1.g,hs1⟩
 have hext0:Ext G w G1 {w with drawn:=w.drawn+1}:=((Ext.refl G w).drew (w.drawn+1)).trans hext1
 have hA:Agree (jf (sas.map tm.x) st) (st++List.replicate (qO (al.take nq)) .bB):=by
  refine kJ _ _ _ ⟨fun i o hi _=>?_,fun i hi=>?_⟩
  ·rw [List.getElem?_append_left (aD hi)];exact hi
  exfalso
  have hil:i<G.slots.length:=by rw [h.st.len];exact aD hi
  have:=h.st.obj i _ G.slots[i] hi (by simp [hil])
  cases hs:G.slots[i]<;>rw [hs] at this<;>simp [bl] at this
 have:=DN (P:=P) (E:=E) (N:=N) (ro:=ro) (mu:=mu) (m:=ops.size-nq) (Q:=Q) (G0:=G) (w0:=w) hal (K:=fun tm' s=>eY P E (al.drop nq) K tm' s) (fun G' tm' s' a' w' hr he hk=>
  BA hd _ nq a' w' (by omega) (Nat.le_refl _) (qY (K:=K) (ops.toList.drop nq) (al.drop nq) (uz nq hal) hr hk fun G'' tm'' st'' a'' w'' q1 q2 q3=>hq _ _ _ _ _ q1 (he.trans q2) q3)) nq (dR ops.size 0) tm _ G1 a _ hrel hA hext0 hany
 rw [show nq+(ops.size-nq)=ops.size by omega] at this
 exact this
theorem sO {id:Nat} {al:List bZ} {nq:Nat} (sas:List AX) (hnq:nq≤al.length) {G:Gh} {tm:Fr} {st:aA} {a:Act} {w:World} {K:Fr→aA→Prop} {Q:Exit→Act→World→Prop} (hm:P.follows .mixedOrders=true) (hal:ops.toList.mapM (iI P N mu ops)=some al) (hd:gJ ops al nq=true)
  (h:Rel B N E G tm st a w) (hx:eP P E (jf (sas.map tm.x) st) (lX al) (al.take nq) 0 (fun tm' s=>eY P E (al.drop nq) K tm' s) tm (st++List.replicate (qO (al.take nq)) .bB))
  (hq: ∀G' tm' st' a' w',Rel B N E G' tm' st' a' w'→Ext G w G' w'→K tm' st'→Q .normal a' w'):(Code.region id ops true).wpIn (jW ro) 0 P Q a w:=
 wpIn_region_any hm (xz sas hnq hal hd h hx hq)
end
end Go.Proofs.YtcidnoghoifmmaaDoor.AW
