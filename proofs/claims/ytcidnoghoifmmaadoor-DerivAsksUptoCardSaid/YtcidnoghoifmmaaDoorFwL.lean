/-
  The abstract walk: what each operation of the program's does is what its plain operation says (eighth part: append, whole; len, max, min).
-/
import Derived.Test.YtcidnoghoifmmaaDoorFwK
namespace Go.Proofs.YtcidnoghoifmmaaDoor.AW
open Go

theorem cj.set_tail {G:Gh} {id b lo hi n b' lo' hi' n':Nat} {M:Nat→Nat→Option Value} (hid:G.slots[id]? =some (.tail b lo hi n)) (hM: ∀b o u,G.M b o=some u→M b o=some u) (hn:n≤n') (he:n=n'→b'=b∧lo'=lo∧hi'=hi):
  cj G {slots:=G.slots.set id (.tail b' lo' hi' n'),M:=M,sh:=G.sh} where
 sh _ _ h:=h
 M:=hM
 len:=by simp
 box i c h:=by
  left
  show (G.slots.set id _)[i]? =_
  rw [List.getElem?_set_ne (fun e=>by subst e;rw [hid] at h;cases h)];exact h
 ia i c h:=by
  left
  show (G.slots.set id _)[i]? =_
  rw [List.getElem?_set_ne (fun e=>by subst e;rw [hid] at h;cases h)];exact h
 dead i h:=by
  show (G.slots.set id _)[i]? =_
  rw [List.getElem?_set_ne (fun e=>by subst e;rw [hid] at h;cases h)];exact h
 tail i c l m k h:=by
  by_cases e:id=i
  ·subst e
   rw [hid] at h;cases h
   exact .inr ⟨b',lo',hi',n',List.getElem?_set_self (aD hid),hn,he⟩
  refine .inr ⟨c,l,m,k,?_,Nat.le_refl _,fun _=>⟨rfl,rfl,rfl⟩⟩
  show (G.slots.set id _)[i]? =_
  rw [List.getElem?_set_ne e];exact h
section
variable {P:Program} {E:bA} {G:Gh} {st:aA} {w:World}

theorem mB {es b:Nat}: ∀ {xs ys:List AV} {o:Nat},dI G es b o xs→dI G es b (o+xs.length*es) ys→dI G es b o (xs++ys)
  | [],ys,o,_,h=>by simpa using h
  | x::xs,ys,o,h,h'=>by
    simp only [dI] at h
    simp only [List.cons_append,dI]
    refine ⟨h.1,mB h.2 ?_⟩
    rw [List.length_cons,Nat.add_mul,Nat.one_mul] at h'
    rwa [show o+es+xs.length*es=o+(xs.length*es+es) by omega]
theorem mC {G':Gh} {es b k:Nat} {u:Value} {ys:List AV} (S:iO P G es u ys w) (hg:cj G G') (hm: ∀(j:Nat) v,S.news[j]? =some v→G'.M b (k+j)=some v):dI G' es b k ys:=by
  have key: ∀(xs:List AV) (vs:List Value) (o:Nat),vs.length=xs.length→(∀(i:Nat) x u,xs[i]? =some x→vs[i]? =some u→aU G x u∧u.cells.size=es∧ ∀j y,u.cells[j]? =some y→S.news[o+i*es+j]? =some y)→dI G' es b (k+o) xs:=by
    intro xs
    induction xs with
    | nil=>intro vs o _ _;simp only [dI]
    | cons x xs ih=>
      intro vs o hl hx
      match vs,hl with
      | u::vs,hl=>
        simp only [dI]
        obtain ⟨q1,q2,q3⟩:=hx 0 x u rfl rfl
        refine ⟨⟨u,q1.mono hg,q2,fun j y hy=>?_⟩,?_⟩
        · have:=hm _ _ (q3 j y hy)
          rw [←this];congr 1;omega
        rw [Nat.add_assoc]
        refine ih vs (o+es) (by simpa using hl) fun i x' u' hx' hu'=>?_
        obtain ⟨k1,k2,k3⟩:=hx (i+1) x' u' (by simpa using hx') (by simpa using hu')
        refine ⟨k1,k2,fun j y hy=>?_⟩
        have:=k3 j y hy
        rw [Nat.add_mul,Nat.one_mul] at this
        rwa [show o+es+i*es+j=o+(i*es+es)+j by omega]
  exact key ys S.vs 0 S.RW fun i x v hx hv=>by simpa using S.elem i x v hx hv
theorem mz {ts:Array TypeId} {e ty:TypeId} {i:TypeInfo} {z:Value} (T:vR P ts e i z) {u:Value} {ys:List AV} (hs:aG E G st w) (S:iO P G i.size u ys w) (h0:ys≠[]) (hfit:ys.length*i.bytes≤140737488355328) (t:Option Nat:=none) (hty:Kf t e:=by intro T h;cases h):
  bN P E (Builtin.append_ ts ty #[.slice none 0 0,u]) w G (.sl i.size ys (some st.length)) (st++[.tail ys.length t]):=by
 have hpos:0<ys.length:=List.length_pos_iff.2 h0
 have hrun:=iJ (ty:=ty) T (base:=none) (sLen:=0) (sCap:=0) (olds:=[]) (news:=S.news) (by simp [Builtin.firstCells]) S.lenOf S.read (by omega) (by rwa [Nat.zero_add]) (fun k y r h=>fj h)
 simp only [Nat.zero_add,Array.empty_append] at hrun
 have hge:=grownCap_ge w ys.length 0 e
 have hasz:(S.news.toArray++Builtin.zeroCells z.cells (grownCap w ys.length 0 e-ys.length)).size=grownCap w ys.length 0 e*i.size:=by
  simp only [Array.size_append,List.size_toArray,S.len,size_zeroCells,T.Cy,←Nat.add_mul]
  congr 1;omega
 obtain ⟨G',q1,q2,q3,q4⟩:=mV (n:=ys.length) (k:=ys.length*i.size) (w₁ :=w.drew.alloc (.cells (S.news.toArray++Builtin.zeroCells z.cells (grownCap w ys.length 0 e-ys.length)) e)) hs (by simp)
  (fun b hb=>Go.RowKit.Below.heap_alloc w.drew _ b hb) Array.getElem?_push_size rfl rfl rfl (by rw [hasz];exact Nat.mul_le_mul_right _ hge) (.inl rfl)
  (fun j v hj hv=>by
   rw [Array.getElem?_append_left (by simpa [S.len] using hj)] at hv
   exact S.one v (List.mem_of_getElem? (by simpa using hv))) t hty
 refine ⟨_,_,G',hrun,?_,q1,q2⟩
 simp only [aU]
 refine ⟨w.heap.size,0,grownCap w ys.length 0 e,mC S q2.g fun j v hv=>?_,hge,?_,none,.inl rfl,rfl⟩
 ·have hj:j<ys.length*i.size:=by rw [←S.len];exact aD hv
  rw [Nat.zero_add]
  refine q4 j v hj ?_
  rw [Array.getElem?_append_left (by simpa [S.len] using hj)]
  simpa using hv
 simp only [gB,q3]
 exact ⟨Nat.le_refl _,fun _=>⟨trivial,by omega,by rw [hasz];omega,by simp⟩⟩
theorem kV {ts:Array TypeId} {e ty:TypeId} {i:TypeInfo} {z:Value} (T:vR P ts e i z) {u s:Value} {xs ys:List AV} {id:Nat} (hs:aG E G st w) (hr:aU G (.sl i.size xs (some id)) s) {t:Option Nat} (hty:Kf t e) (ho:st[id]? =some (.tail xs.length t)) (S:iO P G i.size u ys w)
    (hfit:(xs.length+ys.length)*i.bytes≤140737488355328):
    bN P E (Builtin.append_ ts ty #[s,u]) w G (.sl i.size (xs++ys) (some id)) (st.set id (.tail (xs.length+ys.length) t)):=by
  simp only [aU] at hr
  obtain ⟨b,o,c,hrs,hlc,htok,sp,hsp,rfl⟩:=hr
  obtain rfl:sp=none:=by
    rcases hsp with h | h
    · exact h
    cases h.2
  have hidl:id<G.slots.length:=by rw [hs.len];exact aD ho
  have hob:=hs.obj id _ G.slots[id] ho (by simp [hidl])
  have hsl:G.slots[id]? =some G.slots[id]:=by simp [hidl]
  simp only [gB,hsl] at htok
  generalize G.slots[id]=sl at hob hsl htok
  cases sl<;>simp only [bl] at hob
  rename_i b' lo hi m
  obtain ⟨rfl,hlohi,⟨arr,te,fz,p1,p2,p3,p5⟩,p4⟩:=hob
  simp only at htok
  obtain ⟨_,htok⟩:=htok
  obtain ⟨rfl,rfl,rfl,ho0⟩:=htok trivial
  have hmem: ∀b o u,G.M b o=some u→w.cell? ⟨b,o,none⟩=some u:=hs.mem
  by_cases hroom:xs.length+ys.length≤c
  · -- in place
    have hmul:(xs.length+ys.length)*i.size≤c*i.size:=Nat.mul_le_mul_right _ hroom
    rw [Nat.add_mul] at hmul
    have hrun:=tg (ty:=ty) T (o:=o) (sLen:=xs.length) (n:=ys.length) (sCap:=c) S.lenOf S.read S.len hroom p1 (fun j h1 h2=>p3.un j (by omega)) (by omega) S.one
    have hnl:=S.len
    obtain ⟨arr',harr'⟩: ∃a:Array Value,a=(arr.toList.take (o+xs.length*i.size)++S.news++arr.toList.drop (o+xs.length*i.size+S.news.length)).toArray:=⟨_,rfl⟩
    have hsz':arr'.size=arr.size:=by rw [harr'];simp;omega
    have hget: ∀j,arr'[j]? =if j<o+xs.length*i.size then arr[j]? else if j<o+xs.length*i.size+ys.length*i.size then S.news[j-(o+xs.length*i.size)]? else arr[j]? :=by
      intro j
      rw [harr']
      simp only [List.getElem?_toArray,List.getElem?_append,List.getElem?_take,List.getElem?_drop,List.length_append,List.length_take,Array.length_toList,Array.getElem?_toList,hnl]
      by_cases h1:j<o+xs.length*i.size
      · simp [h1]
        rw [if_pos (by omega),if_pos (by omega)]
      by_cases h2:j<o+xs.length*i.size+ys.length*i.size
      · simp [h1,h2,show ¬j<min (o+xs.length*i.size) arr.size by omega,show j<min (o+xs.length*i.size) arr.size+ys.length*i.size by omega]
        congr 1;omega
      simp [h1,h2,show ¬j<min (o+xs.length*i.size) arr.size+ys.length*i.size by omega]
      congr 1;omega
    rw [←harr'] at hrun
    let M:Nat→Nat→Option Value:=fun q j=>if q=b'∧o+xs.length*i.size≤j∧j<o+xs.length*i.size+ys.length*i.size then S.news[j-(o+xs.length*i.size)]? else G.M q j
    have hMold: ∀q j v,G.M q j=some v→M q j=some v:=by
      intro q j v hv
      have: ¬(q=b'∧o+xs.length*i.size≤j∧j<o+xs.length*i.size+ys.length*i.size):=fun ⟨h1,h2,_⟩=>p4 j v h2 (h1▸hv)
      simp only [M,if_neg this,hv]
    have hg:cj G {slots:=G.slots.set id (.tail b' (o+(xs.length+ys.length)*i.size) (o+c*i.size) (xs.length+ys.length)),M:=M,sh:=G.sh}:=
      cj.set_tail hsl hMold (by omega) (fun e=>by
        have:ys.length=0:=by omega
        simp [this])
    have hrow: ∀q,q≠b'→(w.setRow b' arr').heap[q]? =w.heap[q]? :=fun q hq=>setRow_other w b' q arr' hq
    have hnew:(w.setRow b' arr').heap[b']? =some (.cells arr' te fz):=setRow_heap w b' arr _ te _ p1
    obtain ⟨k1,k2⟩:=kU (M:=M) (s':=.tail b' (o+(xs.length+ys.length)*i.size) (o+c*i.size) (xs.length+ys.length)) (o':=.tail (xs.length+ys.length) t) (w':=w.setRow b' arr') hs hsl rfl rfl (.inl rfl)
      (fun q _ hq=>hrow q hq) (by simp) rfl rfl rfl (fun e' n hx=>by
        obtain ⟨a2,f2,h1,h2⟩:=hs.jU b' e' n hx
        rw [p1] at h1;cases h1
        exact ⟨arr',fz,hnew,by rw [hsz'];exact h2⟩) hg
      (fun q j v hv=>by
        by_cases h:q=b'∧o+xs.length*i.size≤j∧j<o+xs.length*i.size+ys.length*i.size
        · exact .inr (.inl h.1)
        simp only [M,if_neg h] at hv;exact .inl hv)
      (fun q j v hv hq=>by
        by_cases h:q=b'∧o+xs.length*i.size≤j∧j<o+xs.length*i.size+ys.length*i.size
        · simp only [M,if_pos h] at hv
          obtain ⟨rfl,h1,h2⟩:=h
          refine ⟨?_,S.one v (List.mem_of_getElem? hv)⟩
          simp only [World.cell?,hnew,Option.isSome_none,Bool.false_eq_true,if_false]
          rw [hget,if_neg (by omega),if_pos h2]
          exact hv
        simp only [M,if_neg h] at hv
        refine ⟨?_,hs.one q j v hv⟩
        rcases hq with rfl | hq
        · have hold:=hs.mem q j v hv
          simp only [World.cell?,p1,Option.isSome_none,Bool.false_eq_true,if_false] at hold
          simp only [World.cell?,hnew,Option.isSome_none,Bool.false_eq_true,if_false]
          have hj:j<o+xs.length*i.size:=by
            rcases Nat.lt_or_ge j (o+xs.length*i.size) with h' | h'
            · exact h'
            exact absurd hv (p4 j v h')
          rw [hget,if_pos hj]
          exact hold
        have:=hs.cV hv;omega)
      ⟨rfl,by rw [Nat.add_mul];omega,⟨arr',te,fz,hnew,by omega,by rw [hsz'];exact p3,p5⟩,fun j v hj hv=>by
        have hne: ¬(b'=b'∧o+xs.length*i.size≤j∧j<o+xs.length*i.size+ys.length*i.size):=by rw [Nat.add_mul] at hj;omega
        simp only [M,if_neg hne] at hv
        exact p4 j v (by rw [Nat.add_mul] at hj;omega) hv⟩
    refine ⟨_,_,_,hrun,?_,k1,k2⟩
    simp only [aU]
    refine ⟨b',o,c,mB (dI.mono k2.g hrs) (mC S k2.g fun j v hv=>?_),by simpa using hroom,?_,by simp⟩
    · have hj:j<ys.length*i.size:=by rw [←S.len];exact aD hv
      have hin:b'=b'∧o+xs.length*i.size≤o+xs.length*i.size+j∧o+xs.length*i.size+j<o+xs.length*i.size+ys.length*i.size:=⟨rfl,by omega,by omega⟩
      show M b' (o+xs.length*i.size+j)=some v
      simp only [M,if_pos hin]
      rw [Nat.add_sub_cancel_left]
      exact hv
    simp only [gB,List.getElem?_set_self hidl,List.length_append]
    exact ⟨Nat.le_refl _,fun _=>⟨trivial,trivial,trivial,ho0⟩⟩
  -- a new row
  have hypos:0<ys.length:=by omega
  obtain ⟨vs,k1,k2,k3,k4⟩:=iq hrs
  have holds:(Builtin.firstCells i.size xs.length (.slice (some ⟨b',o,none⟩) xs.length c)).run P w= .ok ((vs.map fun v=>v.cells.toList).flatten).toArray w:=by
    have:=dc (P:=P) (w:=w) (b:=b') (o:=o) (us:=(vs.map fun v=>v.cells.toList).flatten) fun j v hv=>hs.mem _ _ _ (k3 j v hv)
    rw [k2] at this
    simpa [Builtin.firstCells] using this
  have hrun:=iJ (ty:=ty) T holds S.lenOf S.read (by omega) hfit (fun k y r h=>fj h)
  generalize ((vs.map fun v=>v.cells.toList).flatten)=olds at holds hrun k2 k3 k4
  have hge:=grownCap_ge w (xs.length+ys.length) c e
  obtain ⟨arr',harr'⟩: ∃a:Array Value,a=olds.toArray++S.news.toArray++Builtin.zeroCells z.cells (grownCap w (xs.length+ys.length) c e-(xs.length+ys.length)):=⟨_,rfl⟩
  rw [←harr'] at hrun
  have hasz:arr'.size=grownCap w (xs.length+ys.length) c e*i.size:=by
    rw [harr']
    simp only [Array.size_append,List.size_toArray,S.len,k2,size_zeroCells,T.Cy,←Nat.add_mul]
    congr 1;omega
  have hneed:(xs.length+ys.length)*i.size≤arr'.size:=by rw [hasz];exact Nat.mul_le_mul_right _ hge
  have hg1: ∀j,j<xs.length*i.size→arr'[j]? =olds[j]? :=fun j hj=>by
    rw [harr',Array.append_assoc,Array.getElem?_append_left (by simpa [k2] using hj)]
    simp
  have hg2: ∀j,j<ys.length*i.size→arr'[xs.length*i.size+j]? =S.news[j]? :=fun j hj=>by
    rw [harr',Array.getElem?_append_left (by simp [k2,S.len];omega),Array.getElem?_append_right (by simp [k2])]
    simp [k2]
  let w':World:=w.drew.alloc (.cells arr' e)
  have hwnew:w'.heap[w.heap.size]? =some (.cells arr' e (0,0)):=Array.getElem?_push_size
  let M:Nat→Nat→Option Value:=fun q j=>if q=w.heap.size then (if j<(xs.length+ys.length)*i.size then arr'[j]? else none) else G.M q j
  have hMnone: ∀o u,G.M w.heap.size o≠some u:=fun o u hu=>by have:=hs.cV hu;omega
  have hMold: ∀q j v,G.M q j=some v→M q j=some v:=by
    intro q j v hv
    have:q≠w.heap.size:=fun e=>hMnone j v (e▸hv)
    simp only [M,if_neg this,hv]
  have hbl:=hs.block (List.mem_of_getElem? hsl) (rfl:(Slot.tail b' (o+xs.length*i.size) (o+c*i.size) xs.length).blk=some b')
  have hg:cj G {slots:=G.slots.set id (.tail w.heap.size ((xs.length+ys.length)*i.size) arr'.size (xs.length+ys.length)),M:=M,sh:=G.sh}:=
    cj.set_tail hsl hMold (by omega) (fun e=>by omega)
  have hone: ∀j v,j<(xs.length+ys.length)*i.size→arr'[j]? =some v→v.oneCell'=true:=by
    intro j v hj hv
    by_cases h1:j<xs.length*i.size
    · rw [hg1 j h1] at hv
      exact hs.one _ _ _ (k3 j v hv)
    obtain ⟨d,rfl⟩: ∃d,j=xs.length*i.size+d:=⟨j-xs.length*i.size,by omega⟩
    rw [Nat.add_mul] at hj
    rw [hg2 d (by omega)] at hv
    exact S.one v (List.mem_of_getElem? hv)
  obtain ⟨r1,r2⟩:=kU (M:=M) (s':=.tail w.heap.size ((xs.length+ys.length)*i.size) arr'.size (xs.length+ys.length)) (o':=.tail (xs.length+ys.length) t) (w':=w') hs hsl rfl rfl (.inr (Nat.le_refl _))
    (fun q hq _=>Go.RowKit.Below.heap_alloc w.drew _ q hq) (by simp [w']) rfl rfl rfl (fun e' n hx=>by
      obtain ⟨a2,f2,h1,h2⟩:=hs.jU b' e' n hx
      exact ⟨a2,f2,(Go.RowKit.Below.heap_alloc w.drew _ b' hbl).trans h1,h2⟩) hg
    (fun q j v hv=>by
      by_cases h:q=w.heap.size
      · exact .inr (.inr (by omega))
      simp only [M,if_neg h] at hv;exact .inl hv)
    (fun q j v hv hq=>by
      by_cases h:q=w.heap.size
      · subst h
        simp only [M,if_true] at hv
        split at hv
        · rename_i hj
          refine ⟨?_,hone j v hj hv⟩
          simp only [World.cell?,hwnew,Option.isSome_none,Bool.false_eq_true,if_false]
          exact hv
        cases hv
      simp only [M,if_neg h] at hv
      have hlt:=hs.cV hv
      refine ⟨?_,hs.one q j v hv⟩
      rw [←hs.mem q j v hv]
      exact World.cell?_of_block (w:=w) (w':=w') (a:=⟨q,j,none⟩) (Go.RowKit.Below.heap_alloc w.drew _ q hlt))
    ⟨rfl,hneed,⟨arr',e,(0,0),hwnew,Nat.le_refl _,.inl rfl,hty⟩,fun j v hj hv=>by
      simp only [M,if_true,if_neg (show ¬j<(xs.length+ys.length)*i.size by omega)] at hv
      cases hv⟩
  refine ⟨_,_,_,hrun,?_,r1,r2⟩
  simp only [aU]
  have hMr: ∀j v,j<(xs.length+ys.length)*i.size→arr'[j]? =some v→M w.heap.size j=some v:=fun j v hj hv=>by simp only [M,if_true,if_pos hj,hv]
  refine ⟨w.heap.size,0,grownCap w (xs.length+ys.length) c e,mB ?_ (mC S r2.g fun j v hv=>?_),by simpa using hge,?_,by simp⟩
  · have key: ∀(l:List AV) (us:List Value) (p:Nat),us.length=l.length→(∀(i':Nat) x u,l[i']? =some x→us[i']? =some u→aU G x u∧u.cells.size=i.size∧ ∀j y,u.cells[j]? =some y→olds[p+i'*i.size+j]? =some y)→
        dI {slots:=G.slots.set id (.tail w.heap.size ((xs.length+ys.length)*i.size) arr'.size (xs.length+ys.length)),M:=M,sh:=G.sh} i.size w.heap.size p l:=by
      intro l
      induction l with
      | nil=>intro us p _ _;simp only [dI]
      | cons x l ih=>
        intro us p hl hx
        match us,hl with
        | u::us,hl=>
          simp only [dI]
          obtain ⟨q1,q2,q3⟩:=hx 0 x u rfl rfl
          refine ⟨⟨u,q1.mono hg,q2,fun j y hy=>?_⟩,?_⟩
          · have h3:=q3 j y hy
            simp only [Nat.zero_mul,Nat.add_zero] at h3
            have hj:=aD h3
            rw [k2] at hj
            exact hMr _ _ (by rw [Nat.add_mul];omega) (by rw [hg1 _ hj];exact h3)
          refine ih us (p+i.size) (by simpa using hl) fun i' x' u' hx' hu'=>?_
          obtain ⟨t1,t2,t3⟩:=hx (i'+1) x' u' (by simpa using hx') (by simpa using hu')
          refine ⟨t1,t2,fun j y hy=>?_⟩
          have:=t3 j y hy
          rw [Nat.add_mul,Nat.one_mul] at this
          rwa [show p+i.size+i'*i.size+j=p+(i'*i.size+i.size)+j by omega]
    exact key xs vs 0 k1 fun i' x u hx hu=>by simpa using k4 i' x u hx hu
  · have hj:j<ys.length*i.size:=by rw [←S.len];exact aD hv
    rw [Nat.zero_add]
    exact hMr _ _ (by rw [Nat.add_mul];omega) (by rw [hg2 j hj];exact hv)
  simp only [gB,List.getElem?_set_self hidl,List.length_append]
  exact ⟨Nat.le_refl _,fun _=>⟨trivial,by omega,by rw [hasz];omega,by simp⟩⟩
def iO.mono {G G':Gh} (hg:cj G G') {es:Nat} {u:Value} {ys:List AV} (S:iO P G es u ys w):iO P G' es u ys w:=
 ⟨S.news,S.vs,S.lenOf,S.read,S.len,S.one,S.RW,fun i x v hx hv=>let h:=S.elem i x v hx hv;⟨h.1.mono hg,h.2⟩⟩

theorem og {α :Type} (a b: α): ∀l:List α,(l++[a]).set l.length b=l++[b]
 | []=>rfl
 | x::l=>by simp [og a b l]
theorem nF (es:Nat): ∀(n:Nat) (cs:List AV),(chunks es n cs).length=n
 | 0,_=>rfl
 | n+1,cs=>by simp [chunks,nF es n]
theorem sV {id es len:Nat} {cs:List AV} {u:Value} (hs:aG E G st w) (hr:aU G (.row id es 0 len) u) (ho:st[id]? =some (.cells cs)) (hl:cs.length=len*es) (hes:0<es) (h1:cs.all AV.one=true):
  ∃G',aG E G' (st.set id .dead++[.tail len]) w∧Ext G w G' w∧aU G' (.sl es ((chunks es len cs).map (cC (!(es==1)))) (some st.length)) u:=by
 have hidl:id<G.slots.length:=by rw [hs.len];exact aD ho
 have hsl:G.slots[id]? =some G.slots[id]:=by simp [hidl]
 have hob:=hs.obj id _ _ ho hsl
 simp only [aU,hsl] at hr
 generalize G.slots[id]=s at hob hr hsl
 cases s<;>simp only [bl] at hob hr
 rename_i b
 obtain ⟨⟨arr,e,fz,p1,p2,p3,p4⟩,p5⟩:=hob
 obtain ⟨c,e',n,hlc,hsh,hcap,rfl⟩:=hr
 obtain ⟨arr2,fz2,q1,q2⟩:=hs.jU b e' n hsh
 rw [p1] at q1;cases q1
 have hbw:b<w.heap.size:=(Array.getElem?_eq_some_iff.1 p1).1
 have hlec:len*es≤c*es:=Nat.mul_le_mul_right _ hlc
 rw [Nat.zero_add] at hcap
 let M:Nat→Nat→Option Value:=fun q j=>if q=b then (if j<len*es then arr[j]? else none) else G.M q j
 have hMb: ∀j,M b j=if j<len*es then arr[j]? else none:=fun j=>if_pos rfl
 have hMn: ∀q j,q≠b→M q j=G.M q j:=fun q j hq=>if_neg hq
 have hMold: ∀q j v,G.M q j=some v→M q j=some v:=fun q j v hv=>by
  have:q≠b:=fun e=>p5 j v (e▸hv)
  rw [hMn q j this];exact hv
 have key: ∀(i:Nat) (t:Slot),G.slots[i]? =some t→(G.slots.set id .dead++[.tail b (len*es) (c*es) len])[i]? =some t∨(G.slots.set id .dead++[.tail b (len*es) (c*es) len])[i]? =some .dead:=fun i t hi=>by
  have hil:=aD hi
  rw [List.getElem?_append_left (by simpa using hil)]
  by_cases e':id=i
  ·subst e';exact .inr (List.getElem?_set_self hidl)
  exact .inl (by rw [List.getElem?_set_ne e'];exact hi)
 have hg:cj G {slots:=G.slots.set id .dead++[.tail b (len*es) (c*es) len],M:=M,sh:=G.sh}:=
  ⟨fun _ _ h=>h,hMold,by simp,fun i b hi=>key i _ hi,fun i b hi=>key i _ hi,fun i hi=>by rcases key i _ hi with h' | h'<;>exact h',fun i b lo hi n hi'=>by
   rcases key i _ hi' with h' | h'
   ·exact .inr ⟨b,lo,hi,n,h',Nat.le_refl _,fun _=>⟨rfl,rfl,rfl⟩⟩
   exact .inl h'⟩
 have hslot: ∀(i:Nat) t,(G.slots.set id .dead++[Slot.tail b (len*es) (c*es) len])[i]? =some t→(i=id∧t= .dead)∨(i≠id∧i<G.slots.length∧G.slots[i]? =some t)∨(i=G.slots.length∧t= .tail b (len*es) (c*es) len):=fun i t hi=>by
  rcases Nat.lt_or_ge i G.slots.length with hil | hil
  ·rw [List.getElem?_append_left (by simpa using hil)] at hi
   by_cases e':id=i
   ·subst e';rw [List.getElem?_set_self hidl] at hi;cases hi;exact .inl ⟨rfl,rfl⟩
   rw [List.getElem?_set_ne e'] at hi;exact .inr (.inl ⟨fun h=>e' h.symm,hil,hi⟩)
  have hi':=aD hi
  simp at hi'
  have:i=G.slots.length:=by omega
  subst this
  rw [List.getElem?_append_right (by simp)] at hi
  simp at hi
  exact .inr (.inr ⟨rfl,hi.symm⟩)
 have hone: ∀j v,j<len*es→arr[j]? =some v→v.oneCell'=true:=fun j v hj hv=>by
  refine ij p3 h1 v (List.mem_of_getElem? (i:=j) ?_)
  rw [List.getElem?_take,if_pos (by omega)]
  simpa using hv
 have hsr:aG E {slots:=G.slots.set id .dead++[.tail b (len*es) (c*es) len],M:=M,sh:=G.sh} (st.set id .dead++[.tail len]) w:=by
  refine ⟨by simp [hs.len],?_,?_,?_,?_,hs.jU,hs.gG.mono hg⟩
  ·intro i o t hi hti
   rcases hslot i t hti with ⟨rfl,rfl⟩ | ⟨hne,hil,hti'⟩ | ⟨rfl,rfl⟩
   ·rw [List.getElem?_append_left (by rw [List.length_set,←hs.len];exact hidl),List.getElem?_set_self (by rw [←hs.len];exact hidl)] at hi
    cases hi;trivial
   ·rw [List.getElem?_append_left (by rw [List.length_set,←hs.len];exact hil),List.getElem?_set_ne (Ne.symm hne)] at hi
    refine (hs.obj i o t hi hti').keep hg (fun _ _=>rfl) fun b' o' u' hb' hu=>?_
    have hbb:b'≠b:=fun eb=>hs.apart i id t (.box b) b' hne hti' hsl hb' (by rw [eb];rfl)
    have hu':M b' o'=some u':=hu
    rwa [hMn b' o' hbb] at hu'
   rw [hs.len,List.getElem?_append_right (by simp)] at hi
   simp at hi
   subst hi
   refine ⟨rfl,hlec,⟨arr,e,fz,p1,by omega,p4,fun T h=>by cases h⟩,fun o' u' ho' hu=>?_⟩
   have hu':M b o'=some u':=hu
   rw [hMb,if_neg (by omega)] at hu'
   cases hu'
  ·intro i j t t' b' hij hti htj hbt hbt'
   rcases hslot i t hti with ⟨rfl,rfl⟩ | ⟨hne,hil,hti'⟩ | ⟨rfl,rfl⟩
   ·cases hbt
   ·rcases hslot j t' htj with ⟨rfl,rfl⟩ | ⟨hnj,hjl,htj'⟩ | ⟨rfl,rfl⟩
    ·cases hbt'
    ·exact hs.apart i j t t' b' hij hti' htj' hbt hbt'
    cases hbt';exact hs.apart i id t (.box b) b hne hti' hsl hbt rfl
   rcases hslot j t' htj with ⟨rfl,rfl⟩ | ⟨hnj,hjl,htj'⟩ | ⟨rfl,rfl⟩
   ·cases hbt'
   ·cases hbt;exact hs.apart j id t' (.box b) b hnj htj' hsl hbt' rfl
   exact hij rfl
  ·intro q j v hv
   have hv':M q j=some v:=hv
   by_cases hq:q=b
   ·subst hq
    rw [hMb] at hv'
    split at hv'
    ·simp only [World.cell?,p1,Option.isSome_none,Bool.false_eq_true,if_false];exact hv'
    cases hv'
   rw [hMn q j hq] at hv';exact hs.mem q j v hv'
  intro q j v hv
  have hv':M q j=some v:=hv
  by_cases hq:q=b
  ·subst hq
   rw [hMb] at hv'
   split at hv'
   ·rename_i hj;exact hone j v hj hv'
   cases hv'
  rw [hMn q j hq] at hv';exact hs.one q j v hv'
 have hext:Ext G w {slots:=G.slots.set id .dead++[.tail b (len*es) (c*es) len],M:=M,sh:=G.sh} w:=by
  refine ⟨hg,rfl,rfl,rfl,Nat.le_refl _,fun _ _ _=>rfl,fun q j v hv=>?_,fun t ht q hq=>?_⟩
  ·have hv':M q j=some v:=hv
   by_cases hq:q=b
   ·exact .inr (.inl ⟨.box b,List.mem_of_getElem? hsl,by rw [hq];rfl⟩)
   rw [hMn q j hq] at hv';exact .inl hv'
  obtain ⟨i,hi⟩:=List.getElem?_of_mem ht
  rcases hslot i t hi with ⟨rfl,rfl⟩ | ⟨_,_,hti'⟩ | ⟨rfl,rfl⟩
  ·cases hq
  ·exact .inl ⟨t,List.mem_of_getElem? hti',hq⟩
  cases hq;exact .inl ⟨.box b,List.mem_of_getElem? hsl,rfl⟩
 refine ⟨_,hsr,hext,?_⟩
 have hlen2:((chunks es len cs).map (cC (!(es==1)))).length=len:=by simp [nF]
 simp only [aU]
 refine ⟨b,0,c,?_,by rw [hlen2];exact hlc,?_,by rw [hlen2];simp⟩
 ·refine kM hes (by cases h:(es==1)<;>simp_all) (aW.mono hg p3) hl h1 fun j v hv=>?_
  rw [Nat.zero_add]
  rw [List.getElem?_take] at hv
  split at hv
  ·rename_i hj
   show M b j=some v
   rw [hMb,if_pos (by omega)]
   simpa using hv
  cases hv
 have hst:(G.slots.set id .dead++[Slot.tail b (len*es) (c*es) len])[st.length]? =some (.tail b (len*es) (c*es) len):=by
  rw [List.getElem?_append_right (by simp [hs.len])];simp [hs.len]
 simp only [gB,hst,hlen2]
 exact ⟨Nat.le_refl _,fun _=>⟨trivial,by simp,by simp,trivial⟩⟩
theorem CW {slots:List Slot} {id:Nat} {x:Slot} (hidl:id<slots.length) (l:List Slot) (i:Nat) (t:Slot) (hi:slots[i]? =some t):(slots.set id x++l)[i]? =some t∨(i=id∧(slots.set id x++l)[i]? =some x):=by
 have hil:=aD hi
 rw [List.getElem?_append_left (by simpa using hil)]
 by_cases e':id=i
 ·subst e';exact .inr ⟨rfl,List.getElem?_set_self hidl⟩
 exact .inl (by rw [List.getElem?_set_ne e'];exact hi)
theorem JI {id b:Nat} {cs:List AV} (hs:aG E G st w) (ho:st[id]? =some (.cells cs)) (hsl:G.slots[id]? =some (.box b)):
  aG E {slots:=G.slots.set id .dead++[.box b],M:=G.M,sh:=G.sh} (st.set id .dead++[.cells cs]) w∧Ext G w {slots:=G.slots.set id .dead++[.box b],M:=G.M,sh:=G.sh} w:=by
 have hidl:id<G.slots.length:=aD hsl
 have hob:=hs.obj id _ _ ho hsl
 have key: ∀(i:Nat) (t:Slot),G.slots[i]? =some t→(G.slots.set id .dead++[Slot.box b])[i]? =some t∨(G.slots.set id .dead++[Slot.box b])[i]? =some .dead:=fun i t hi=>by
  rcases CW (x:=.dead) hidl [.box b] i t hi with h' | ⟨_,h'⟩
  ·exact .inl h'
  exact .inr h'
 have hg:cj G {slots:=G.slots.set id .dead++[.box b],M:=G.M,sh:=G.sh}:=
  ⟨fun _ _ h=>h,fun _ _ _ h=>h,by simp,fun i b hi=>key i _ hi,fun i b hi=>key i _ hi,fun i hi=>by rcases key i _ hi with h' | h'<;>exact h',fun i b lo hi n hi'=>by
   rcases key i _ hi' with h' | h'
   ·exact .inr ⟨b,lo,hi,n,h',Nat.le_refl _,fun _=>⟨rfl,rfl,rfl⟩⟩
   exact .inl h'⟩
 have hslot: ∀(i:Nat) t,(G.slots.set id .dead++[Slot.box b])[i]? =some t→(i=id∧t= .dead)∨(i≠id∧i<G.slots.length∧G.slots[i]? =some t)∨(i=G.slots.length∧t= .box b):=fun i t hi=>by
  rcases Nat.lt_or_ge i G.slots.length with hil | hil
  ·rw [List.getElem?_append_left (by simpa using hil)] at hi
   by_cases e':id=i
   ·subst e';rw [List.getElem?_set_self hidl] at hi;cases hi;exact .inl ⟨rfl,rfl⟩
   rw [List.getElem?_set_ne e'] at hi;exact .inr (.inl ⟨fun h=>e' h.symm,hil,hi⟩)
  have hi':=aD hi
  simp at hi'
  have:i=G.slots.length:=by omega
  subst this
  rw [List.getElem?_append_right (by simp)] at hi
  simp at hi
  exact .inr (.inr ⟨rfl,hi.symm⟩)
 refine ⟨⟨by simp [hs.len],?_,?_,hs.mem,hs.one,hs.jU,hs.gG.mono hg⟩,⟨hg,rfl,rfl,rfl,Nat.le_refl _,fun _ _ _=>rfl,fun q j v hv=>.inl hv,fun t ht q hq=>?_⟩⟩
 ·intro i o t hi hti
  rcases hslot i t hti with ⟨rfl,rfl⟩ | ⟨hne,hil,hti'⟩ | ⟨rfl,rfl⟩
  ·rw [List.getElem?_append_left (by rw [List.length_set,←hs.len];exact hidl),List.getElem?_set_self (by rw [←hs.len];exact hidl)] at hi
   cases hi;trivial
  ·rw [List.getElem?_append_left (by rw [List.length_set,←hs.len];exact hil),List.getElem?_set_ne (Ne.symm hne)] at hi
   exact (hs.obj i o t hi hti').keep hg (fun _ _=>rfl) fun b' o' u' hb' hu=>hu
  rw [hs.len,List.getElem?_append_right (by simp)] at hi
  simp at hi
  subst hi
  exact hob.keep hg (fun _ _=>rfl) fun b' o' u' hb' hu=>hu
 ·intro i j t t' b' hij hti htj hbt hbt'
  rcases hslot i t hti with ⟨rfl,rfl⟩ | ⟨hne,hil,hti'⟩ | ⟨rfl,rfl⟩
  ·cases hbt
  ·rcases hslot j t' htj with ⟨rfl,rfl⟩ | ⟨hnj,hjl,htj'⟩ | ⟨rfl,rfl⟩
   ·cases hbt'
   ·exact hs.apart i j t t' b' hij hti' htj' hbt hbt'
   cases hbt';exact hs.apart i id t (.box b) b hne hti' hsl hbt rfl
  rcases hslot j t' htj with ⟨rfl,rfl⟩ | ⟨hnj,hjl,htj'⟩ | ⟨rfl,rfl⟩
  ·cases hbt'
  ·cases hbt;exact hs.apart j id t' (.box b) b hnj htj' hsl hbt' rfl
  exact hij rfl
 obtain ⟨i,hi⟩:=List.getElem?_of_mem ht
 rcases hslot i t hi with ⟨rfl,rfl⟩ | ⟨_,_,hti'⟩ | ⟨rfl,rfl⟩
 ·cases hq
 ·exact .inl ⟨t,List.mem_of_getElem? hti',hq⟩
 cases hq;exact .inl ⟨.box b,List.mem_of_getElem? hsl,rfl⟩
theorem yV {id:Nat} (hs:aG E G st w) (hid:id<st.length):
  aG E {slots:=G.slots.set id .dead,M:=G.M,sh:=G.sh} (st.set id .dead) w∧Ext G w {slots:=G.slots.set id .dead,M:=G.M,sh:=G.sh} w:=by
 have hidl:id<G.slots.length:=by rw [hs.len];exact hid
 have key: ∀(i:Nat) (t:Slot),G.slots[i]? =some t→(G.slots.set id .dead)[i]? =some t∨(G.slots.set id .dead)[i]? =some .dead:=fun i t hi=>by
  rcases CW (x:=.dead) hidl [] i t hi with h' | ⟨_,h'⟩
  ·rw [List.append_nil] at h';exact .inl h'
  rw [List.append_nil] at h';exact .inr h'
 have hg:cj G {slots:=G.slots.set id .dead,M:=G.M,sh:=G.sh}:=
  ⟨fun _ _ h=>h,fun _ _ _ h=>h,by simp,fun i b hi=>key i _ hi,fun i b hi=>key i _ hi,fun i hi=>by rcases key i _ hi with h' | h'<;>exact h',fun i b lo hi n hi'=>by
   rcases key i _ hi' with h' | h'
   ·exact .inr ⟨b,lo,hi,n,h',Nat.le_refl _,fun _=>⟨rfl,rfl,rfl⟩⟩
   exact .inl h'⟩
 have hslot: ∀(i:Nat) t,(G.slots.set id .dead)[i]? =some t→(i=id∧t= .dead)∨(i≠id∧G.slots[i]? =some t):=fun i t hi=>by
  by_cases e':id=i
  ·subst e';rw [List.getElem?_set_self hidl] at hi;cases hi;exact .inl ⟨rfl,rfl⟩
  rw [List.getElem?_set_ne e'] at hi;exact .inr ⟨fun h=>e' h.symm,hi⟩
 refine ⟨⟨by simp [hs.len],?_,?_,hs.mem,hs.one,hs.jU,hs.gG.mono hg⟩,⟨hg,rfl,rfl,rfl,Nat.le_refl _,fun _ _ _=>rfl,fun q j v hv=>.inl hv,fun t ht q hq=>?_⟩⟩
 ·intro i o t hi hti
  rcases hslot i t hti with ⟨rfl,rfl⟩ | ⟨hne,hti'⟩
  ·rw [List.getElem?_set_self hid] at hi;cases hi;trivial
  rw [List.getElem?_set_ne (Ne.symm hne)] at hi
  exact (hs.obj i o t hi hti').keep hg (fun _ _=>rfl) fun b' o' u' hb' hu=>hu
 ·intro i j t t' b' hij hti htj hbt hbt'
  rcases hslot i t hti with ⟨rfl,rfl⟩ | ⟨hne,hti'⟩
  ·cases hbt
  rcases hslot j t' htj with ⟨rfl,rfl⟩ | ⟨hnj,htj'⟩
  ·cases hbt'
  exact hs.apart i j t t' b' hij hti' htj' hbt hbt'
 obtain ⟨i,hi⟩:=List.getElem?_of_mem ht
 rcases hslot i t hi with ⟨rfl,rfl⟩ | ⟨_,hti'⟩
 ·cases hq
 exact .inl ⟨t,List.mem_of_getElem? hti',hq⟩
theorem vK {G:Gh} {es:Nat}: ∀(l:List AV) (vs news:List Value),vs.length=l.length→news.length=l.length*es→(∀(i:Nat) x v,l[i]? =some x→vs[i]? =some v→aU G x v∧v.cells.size=es∧ ∀j y,v.cells[j]? =some y→news[i*es+j]? =some y)→aW G (l.flatMap AV.cells) news
  | [],vs,news,_,hn,_=>by
    have:news=[]:=List.eq_nil_of_length_eq_zero (by simpa using hn)
    subst this;simp only [List.flatMap_nil,aW]
  | x::l,[],news,hv,_,_=>by simp at hv
  | x::l,v::vs,news,hv,hn,h=>by
    obtain ⟨h1,h2,h3⟩:=h 0 x v rfl rfl
    have hlen:es≤news.length:=by rw [hn,List.length_cons,Nat.add_mul];omega
    have e:news.take es=v.cells.toList:=by
      apply List.ext_getElem?
      intro j
      rw [List.getElem?_take]
      split
      · rename_i hj
        have hj':j<v.cells.size:=by omega
        have:=h3 j v.cells[j] (by simp [hj'])
        rw [Nat.zero_mul,Nat.zero_add] at this
        rw [this];simp [hj']
      rename_i hj
      rw [List.getElem?_eq_none (by simp;omega)]
    rw [←List.take_append_drop es news,List.flatMap_cons]
    refine dX (by rw [e];exact gh h1) (vK (es:=es) l vs (news.drop es) (by simpa using hv) (by rw [List.length_drop,hn,List.length_cons,Nat.add_mul,Nat.one_mul,Nat.add_sub_cancel]) fun i x' v' hx hv'=>?_)
    obtain ⟨q1,q2,q3⟩:=h (i+1) x' v' (by simpa using hx) (by simpa using hv')
    refine ⟨q1,q2,fun j y hy=>?_⟩
    rw [List.getElem?_drop,←q3 j y hy,Nat.add_mul,Nat.one_mul]
    congr 1;omega
theorem ot {es:Nat} {u:Value} {ys:List AV} (S:iO P G es u ys w):aW G (ys.flatMap AV.cells) S.news:=vK ys S.vs S.news S.RW S.len S.elem
theorem Jk {es:Nat} {u:Value} {ys:List AV} (S:iO P G es u ys w):(ys.flatMap AV.cells).length=ys.length*es:=by rw [←S.len];exact (aj (ot S)).symm
theorem th {ts:Array TypeId} {e ty:TypeId} {i:TypeInfo} {z:Value} (T:vR P ts e i z) {u:Value} {ys:List AV} (hs:aG E G st w) (S:iO P G i.size u ys w) (h0:ys≠[]) (hfit:ys.length*i.bytes≤140737488355328):
  bN P E (Builtin.append_ ts ty #[.slice none 0 0,u]) w G (.row st.length i.size 0 ys.length) (st++[.cells (ys.flatMap AV.cells)]):=by
 have hpos:0<ys.length:=List.length_pos_iff.2 h0
 have hrun:=iJ (ty:=ty) T (base:=none) (sLen:=0) (sCap:=0) (olds:=[]) (news:=S.news) (by simp [Builtin.firstCells]) S.lenOf S.read (by omega) (by rwa [Nat.zero_add]) (fun k y r h=>fj h)
 simp only [Nat.zero_add,Array.empty_append] at hrun
 have hge:=grownCap_ge w ys.length 0 e
 obtain ⟨rest,hrest⟩: ∃r,r=(Builtin.zeroCells z.cells (grownCap w ys.length 0 e-ys.length)).toList:=⟨_,rfl⟩
 have hz:(Builtin.zeroCells z.cells (grownCap w ys.length 0 e-ys.length))=rest.toArray:=by rw [hrest]
 have harr:S.news.toArray++Builtin.zeroCells z.cells (grownCap w ys.length 0 e-ys.length)=(S.news++rest).toArray:=by rw [hz];simp
 have hasz:(S.news++rest).length=grownCap w ys.length 0 e*i.size:=by
  have hr:rest.length=(grownCap w ys.length 0 e-ys.length)*i.size:=by rw [hrest,Array.length_toList,size_zeroCells,T.Cy]
  rw [List.length_append,S.len,hr,←Nat.add_mul];congr 1;omega
 rw [harr] at hrun
 have d1:aG E G st w.drew:=hs.drew _
 obtain ⟨q1,q2,q3⟩:=iB d1 (ot S) e rest (0,0) (.inl rfl)
 have x0:Ext G w G w.drew:=(Ext.refl G w).drew _
 obtain ⟨G',g1,g2,g3,g4,g5,g6⟩:=ir q1 (b:=w.heap.size) Array.getElem?_push_size
 refine ⟨_,_,G',hrun,?_,g2,x0.trans (q2.trans g3)⟩
 have q3':(G.push (.box w.drew.heap.size) G.M).slots[st.length]? =some (.box w.heap.size):=q3
 simp only [aU,g4,q3']
 refine ⟨grownCap w ys.length 0 e,e,_,hge,g6,?_,by simp⟩
 rw [Nat.zero_add,←hasz];exact Nat.le_of_eq (by simp)
theorem uR {ts:Array TypeId} {e ty:TypeId} {i:TypeInfo} {z:Value} (T:vR P ts e i z) {u s:Value} {cs ys:List AV} {id len:Nat} (hs:aG E G st w) (hr:aU G (.row id i.size 0 len) s) (ho:st[id]? =some (.cells cs)) (hl:cs.length=len*i.size) (S:iO P G i.size u ys w)
  (hfit:(len+ys.length)*i.bytes≤140737488355328):
  bN P E (Builtin.append_ ts ty #[s,u]) w G (.row st.length i.size 0 (len+ys.length)) (st.set id .dead++[.cells (cs++ys.flatMap AV.cells)]):=by
 have hidl:id<G.slots.length:=by rw [hs.len];exact aD ho
 have hsl:G.slots[id]? =some G.slots[id]:=by simp [hidl]
 have hob:=hs.obj id _ _ ho hsl
 simp only [aU,hsl] at hr
 generalize G.slots[id]=sl at hob hr hsl
 cases sl<;>simp only [bl] at hob hr
 rename_i b
 obtain ⟨⟨arr,te,fz,p1,p2,p3,p4⟩,p5⟩:=hob
 obtain ⟨c,e',n,hlc,hsh,hcap,rfl⟩:=hr
 obtain ⟨arr2,fz2,q1,q2⟩:=hs.jU b e' n hsh
 rw [p1] at q1;cases q1
 have hbw:b<w.heap.size:=(Array.getElem?_eq_some_iff.1 p1).1
 rw [Nat.zero_add] at hcap
 rw [Nat.zero_mul]
 have hfl:=Jk S
 have hlist:st.length=G.slots.length:=hs.len.symm
 by_cases hroom:len+ys.length≤c
 ·-- in place
  have hmul:(len+ys.length)*i.size≤c*i.size:=Nat.mul_le_mul_right _ hroom
  rw [Nat.add_mul] at hmul
  have hrun:=tg (ty:=ty) T (b:=b) (o:=0) (sLen:=len) (n:=ys.length) (sCap:=c) S.lenOf S.read S.len hroom p1 (fun j h1 h2=>p4.un j (by omega)) (by omega) S.one
  have hnl:=S.len
  simp only [Nat.zero_add] at hrun
  obtain ⟨s1,x1⟩:=JI hs ho hsl
  obtain ⟨arr',harr'⟩: ∃a:Array Value,a=(arr.toList.take (len*i.size)++S.news++arr.toList.drop (len*i.size+S.news.length)).toArray:=⟨_,rfl⟩
  have hsz':arr'.size=arr.size:=by rw [harr'];simp;omega
  rw [←harr'] at hrun
  have hn1:(G.slots.set id .dead++[Slot.box b])[st.length]? =some (.box b):=by rw [List.getElem?_append_right (by simp [hlist])];simp [hlist]
  have hnew:(w.setRow b arr').heap[b]? =some (.cells arr' te fz):=setRow_heap w b arr _ te _ p1
  have hset:(G.slots.set id .dead++[Slot.box b]).set st.length (.box b)=G.slots.set id .dead++[.box b]:=by
   have h5:=og (Slot.box b) (.box b) (G.slots.set id .dead)
   rw [List.length_set,←hlist] at h5;exact h5
  have hst:(st.set id .dead++[cz.cells cs]).set st.length (.cells (cs++ys.flatMap AV.cells))=st.set id .dead++[.cells (cs++ys.flatMap AV.cells)]:=by
   have h5:=og (cz.cells cs) (.cells (cs++ys.flatMap AV.cells)) (st.set id .dead)
   rw [List.length_set] at h5;exact h5
  obtain ⟨k1,k2⟩:=kU (M:=G.M) (s':=.box b) (o':=.cells (cs++ys.flatMap AV.cells)) (w':=w.setRow b arr') s1 hn1 rfl rfl (.inl rfl)
   (fun q _ hq=>setRow_other w b q arr' hq) (by simp) rfl rfl rfl (fun e' n hx=>by
    obtain ⟨a2,f2,h1,h2⟩:=hs.jU b e' n hx
    rw [p1] at h1;cases h1
    exact ⟨arr',fz,hnew,by rw [hsz'];exact h2⟩) (by simp only [hset];exact cj.refl _)
   (fun q j v hv=>.inl hv)
   (fun q j v hv hq=>by
    rcases hq with rfl | hq
    ·exact absurd hv (p5 j v)
    have:=hs.cV hv;omega)
   (by
    simp only [hset]
    refine ⟨⟨arr',te,fz,hnew,by rw [List.length_append,hl,hfl,hsz'];omega,?_,by rw [hsz'];exact p4⟩,p5⟩
    have:arr'.toList.take (cs++ys.flatMap AV.cells).length=arr.toList.take (len*i.size)++S.news:=by
     rw [harr',List.length_append,hl,hfl]
     simp only
     rw [List.take_append_of_le_length (by simp [hnl];omega),List.take_of_length_le (by simp [hnl];exact Nat.min_le_left _ _)]
    rw [this]
    refine dX ?_ ((ot S).mono x1.g)
    rw [hl] at p3
    exact aW.mono x1.g p3)
  simp only [hset,hst] at k1 k2
  refine ⟨_,_,_,hrun,?_,k1,x1.trans k2⟩
  simp only [aU,hn1]
  exact ⟨c,te,_,hroom,hsh,by rw [Nat.zero_add];exact hcap,by simp⟩
 -- a new row
 have holds:(Builtin.firstCells i.size len (.slice (some ⟨b,0,none⟩) len c)).run P w= .ok (arr.toList.take (len*i.size)).toArray w:=by
  have:=dc (P:=P) (w:=w) (b:=b) (o:=0) (us:=arr.toList.take (len*i.size)) fun j v hv=>by
   rw [List.getElem?_take] at hv
   split at hv
   ·simp only [World.cell?,p1,Option.isSome_none,Bool.false_eq_true,if_false,Nat.zero_add]
    simpa using hv
   cases hv
  have hle:len*i.size≤arr.size:=by rw [←hl];exact p2
  rw [show (arr.toList.take (len*i.size)).length=len*i.size by simp;omega] at this
  simpa [Builtin.firstCells] using this
 have hrun:=iJ (ty:=ty) T holds S.lenOf S.read (by omega) hfit (fun k y r h=>fj h)
 have hge:=grownCap_ge w (len+ys.length) c e
 obtain ⟨rest,hrest⟩: ∃r,r=(Builtin.zeroCells z.cells (grownCap w (len+ys.length) c e-(len+ys.length))).toList:=⟨_,rfl⟩
 have hz:(Builtin.zeroCells z.cells (grownCap w (len+ys.length) c e-(len+ys.length)))=rest.toArray:=by rw [hrest]
 have harr:(arr.toList.take (len*i.size)).toArray++S.news.toArray++Builtin.zeroCells z.cells (grownCap w (len+ys.length) c e-(len+ys.length))=((arr.toList.take (len*i.size)++S.news)++rest).toArray:=by rw [hz];simp
 rw [harr] at hrun
 have hle:len*i.size≤arr.size:=by rw [←hl];exact p2
 have hasz:((arr.toList.take (len*i.size)++S.news)++rest).length=grownCap w (len+ys.length) c e*i.size:=by
  have hr:rest.length=(grownCap w (len+ys.length) c e-(len+ys.length))*i.size:=by rw [hrest,Array.length_toList,size_zeroCells,T.Cy]
  rw [List.length_append,List.length_append,S.len,hr,List.length_take,Array.length_toList,Nat.min_eq_left hle,←Nat.add_mul,←Nat.add_mul];congr 1;omega
 have hidst:id<st.length:=aD ho
 obtain ⟨s1,x1⟩:=yV hs hidst
 have d1:=s1.drew (w.drawn+1)
 have hcells:aW {slots:=G.slots.set id .dead,M:=G.M,sh:=G.sh} (cs++ys.flatMap AV.cells) (arr.toList.take (len*i.size)++S.news):=by
  rw [hl] at p3
  exact dX (aW.mono x1.g p3) ((ot S).mono x1.g)
 obtain ⟨r1,r2,r3⟩:=iB d1 hcells e rest (0,0) (.inl rfl)
 have x0:Ext {slots:=G.slots.set id .dead,M:=G.M,sh:=G.sh} w {slots:=G.slots.set id .dead,M:=G.M,sh:=G.sh} {w with drawn:=w.drawn+1}:=(Ext.refl _ w).drew _
 obtain ⟨G',g1,g2,g3,g4,g5,g6⟩:=ir r1 (b:=w.heap.size) Array.getElem?_push_size
 refine ⟨_,_,G',hrun,?_,g2,x1.trans (x0.trans (r2.trans g3))⟩
 have r3':(Gh.push {slots:=G.slots.set id .dead,M:=G.M,sh:=G.sh} (.box w.heap.size) G.M).slots[st.length]? =some (.box w.heap.size):=by rw [List.length_set] at r3;exact r3
 simp only [aU,g4,r3']
 refine ⟨grownCap w (len+ys.length) c e,e,_,hge,g6,?_,by simp⟩
 rw [Nat.zero_add,←hasz];exact Nat.le_of_eq (by simp)
end
end Go.Proofs.YtcidnoghoifmmaaDoor.AW
