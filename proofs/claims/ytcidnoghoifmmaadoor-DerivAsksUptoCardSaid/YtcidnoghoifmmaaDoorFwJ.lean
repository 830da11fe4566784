/-
  The abstract walk: what each operation of the program's does is what its plain operation says (sixth part: slices that are made and appended to; len, max, min).
-/
import Derived.Test.YtcidnoghoifmmaaDoorFwI
namespace Go.Proofs.YtcidnoghoifmmaaDoor.AW
open Go

section
variable {P:Program} {E:bA} {G:Gh} {st:aA} {w:World}

theorem BP (z:Array Value) (n es:Nat) (hes:es=z.size) (h0:0<es):((Array.range (n*es)).map ((if n*es=0 then #[] else z)[· % (if n*es=0 then #[] else z).size]!)).toList=(List.replicate n z.toList).flatten:=by
 subst hes
 by_cases hn:n*z.size=0
 ·have:n=0:=by
   rcases Nat.mul_eq_zero.1 hn with h | h
   ·exact h
   omega
  subst this
  simp
 rw [if_neg hn]
 exact pX z h0 n
theorem kM {G':Gh} {es n k:Nat} {b:Nat} {ag:Bool} {cs:List AV} {us:List Value} (hes:0<es) (hag:ag=true∨es=1) (hr:aW G' cs us) (hl:cs.length=n*es) (h1:cs.all AV.one=true)
    (hm: ∀(j:Nat) v,us[j]? =some v→G'.M b (k+j)=some v):dI G' es b k ((chunks es n cs).map (cC ag)):=by
  obtain ⟨vs,hv,hk⟩:=qJ hes hag n cs us hr hl h1
  have hlen: ∀(n:Nat) (cs:List AV),(chunks es n cs).length=n:=by
    intro n
    induction n with
    | zero=>intro cs;rfl
    | succ n ih=>intro cs;simp [chunks,ih]
  have:dI G' es b (k+0) ((chunks es n cs).map (cC ag)):=by
    have key: ∀(xs:List AV) (vs:List Value) (o:Nat),vs.length=xs.length→(∀(i:Nat) x u,xs[i]? =some x→vs[i]? =some u→aU G' x u∧u.cells.size=es∧ ∀j y,u.cells[j]? =some y→us[o+i*es+j]? =some y)→dI G' es b (k+o) xs:=by
      intro xs
      induction xs with
      | nil=>intro vs o _ _;simp only [dI]
      | cons x xs ih=>
        intro vs o hl hx
        match vs,hl with
        | u::vs,hl=>
          simp only [dI]
          obtain ⟨q1,q2,q3⟩:=hx 0 x u rfl rfl
          refine ⟨⟨u,q1,q2,fun j y hy=>?_⟩,?_⟩
          · have:=hm _ _ (q3 j y hy)
            rw [←this];congr 1;omega
          rw [Nat.add_assoc]
          refine ih vs (o+es) (by simpa using hl) fun i x' u' hx' hu'=>?_
          obtain ⟨k1,k2,k3⟩:=hx (i+1) x' u' (by simpa using hx') (by simpa using hu')
          refine ⟨k1,k2,fun j y hy=>?_⟩
          have:=k3 j y hy
          rw [Nat.add_mul,Nat.one_mul] at this
          rwa [show o+es+i*es+j=o+(i*es+es)+j by omega]
    exact key _ vs 0 (by simp [hv,hlen]) fun i x u hx hu=>by simpa using hk i x u hx hu
  simpa using this
theorem kR {tm:Fr} {a:Act} {t e:TypeId} {len es:Nat} {zs:List AV} {parts:Array (Nat × Operand)} {ps:List (Nat × Nat × AX)} {l:List (Nat × List AV)} (hf:er G tm a)
  (ht:P.underlying t=some (.slice e)) (hz:zeroOf P e=some zs) (hp:ga P t parts.toList=some ps) (hsz:cx P e=some es) (hes:0<es) (hlim:len*es≤16777216)
  (hl:bY (len*es) ps tm=some l):
  ∃us':Array Value,aW G (av (cJ zs len) l) us'.toList∧(av (cJ zs len) l).length=len*es∧(Instr.buildSlice t len (parts.map fun (i,x)=>(i,a.eval x))).run P w= .ok (.slice (some ⟨w.heap.size,0,none⟩) len len) (w.alloc (.cells us' e)):=by
 obtain ⟨i,z,hi,hz1,hz2,hz3,hz4⟩:=ez hz
 have hesz:es=z.cells.size:=by
  unfold cx at hsz
  rw [hi] at hsz
  simp at hsz
  omega
 have hzl:zs.length=es:=by have:=aj (hz3 G);simp at this;omega
 unfold ga at hp
 split at hp
 ·rename_i place hpl
  have hplace:place=fun i=>some (i*es,es):=by
   unfold oV at hpl
   split at hpl
   ·rename_i hu;rw [ht] at hu;cases hu
   ·rename_i hu;rw [ht] at hu;cases hu
   ·rename_i e' hu
    rw [ht] at hu;cases hu
    rw [hsz] at hpl
    cases hpl
    rfl
   cases hpl
  subst hplace
  obtain ⟨cells0,hc0⟩: ∃c:Array Value,c=(Array.range (len*es)).map ((if len*es=0 then #[] else z.cells)[· % (if len*es=0 then #[] else z.cells).size]!):=⟨_,rfl⟩
  have hcl:cells0.toList=(List.replicate len z.cells.toList).flatten:=by rw [hc0];exact BP z.cells len es hesz hes
  obtain ⟨us',k1,k2,k3⟩:=nJ hf (fun i=>some (i*es,es)) (len*es) parts.toList ps l (cJ zs len) cells0 hp hl (by rw [hcl];exact pY (hz3 G) len) (by
   have:=congrArg List.length hcl
   simp at this
   rw [this,hesz])
  have hrun:(Instr.buildSlice t len (parts.map fun (i,x)=>(i,a.eval x))).run P w= .ok (.slice (some ⟨w.heap.size,0,none⟩) len len) (w.alloc (.cells us' e)):=by
   have hfill:Instr.fill (fun i=>some (i*es,es)) cells0 (parts.map fun (i,x)=>(i,a.eval x)).toList=some us':=by
    rw [←k1];congr 1;simp
   have hlim': ¬(len*es>2 ^ 24):=by omega
   rw [hc0] at hfill
   by_cases h0:len*es=0
   ·simp only [h0,if_true] at hfill
    simp at hfill
    simp [Instr.buildSlice,run_underlying ht,run_sizeOf hsz,h0,hfill,newRow]
   simp only [h0,if_false] at hfill
   simp at hfill
   simp [Instr.buildSlice,run_underlying ht,run_sizeOf hsz,hlim',h0,hz4,hfill,newRow]
  have hfl:(av (cJ zs len) l).length=len*es:=by have:=aj k2;simp at this;omega
  exact ⟨us',k2,hfl,hrun⟩
 cases hp
theorem oh {tm:Fr} {a:Act} {t e:TypeId} {len es:Nat} {ag:Bool} {zs:List AV} {parts:Array (Nat × Operand)} {ps:List (Nat × Nat × AX)} {l:List (Nat × List AV)} (mu:Bool) (hs:aG E G st w) (hf:er G tm a)
    (ht:P.underlying t=some (.slice e)) (hz:zeroOf P e=some zs) (hp:ga P t parts.toList=some ps) (hsz:cx P e=some es) (hes:0<es) (hlim:len*es≤16777216) (hag:ag=true∨es=1)
    (hl:bY (len*es) ps tm=some l) (h1:mu=true∨(av (cJ zs len) l).all AV.one=true):
    bN P E (Instr.buildSlice t len (parts.map fun (i,x)=>(i,a.eval x))) w G (if mu then .row st.length es 0 len else .sl es ((chunks es len (av (cJ zs len) l)).map (cC ag)) (some st.length))
      (st++[if mu then .cells (av (cJ zs len) l) else .tail len]):=by
  obtain ⟨us',k2,hfl,hrun⟩:=kR (w:=w) hf ht hz hp hsz hes hlim hl
  have husz:=aj k2
  simp only [Array.length_toList] at husz
  cases mu with
  | true=>
    obtain ⟨q1,q2,q3⟩:=iB hs k2 e [] (0,0) (.inl rfl)
    simp only [List.append_nil,Array.toArray_toList] at q1 q2
    obtain ⟨G',g1,g2,g3,g4,g5,g6⟩:=ir q1 (b:=w.heap.size) Array.getElem?_push_size
    refine ⟨_,_,G',hrun,?_,g2,q2.trans g3⟩
    simp only [if_true,aU,g4,q3]
    exact ⟨len,_,_,Nat.le_refl _,g6,by rw [Nat.zero_add];omega,by simp⟩
  | false=>
    have hone:(av (cJ zs len) l).all AV.one=true:=by rcases h1 with h1 | h1;cases h1;exact h1
    obtain ⟨G',q1,q2,q3,q4⟩:=mV (n:=len) (k:=us'.size) (w₁ :=w.alloc (.cells us' e)) hs (by simp) (fun b hb=>Go.RowKit.Below.heap_alloc w _ b hb) Array.getElem?_push_size rfl rfl rfl (Nat.le_refl _) (.inl rfl)
      (fun j v _ hv=>ij k2 hone v (by simpa using List.mem_of_getElem? (show us'.toList[j]? =some v by simpa using hv)))
    refine ⟨_,_,G',hrun,?_,q1,q2⟩
    simp only [Bool.false_eq_true,if_false,aU]
    have hlen: ∀(n:Nat) (cs:List AV),(chunks es n cs).length=n:=by
      intro n
      induction n with
      | zero=>intro cs;rfl
      | succ n ih=>intro cs;simp [chunks,ih]
    refine ⟨w.heap.size,0,len,?_,by simp [hlen],?_,by simp [hlen]⟩
    · refine kM hes hag (aW.mono q2.g k2) hfl hone fun j v hv=>?_
      rw [Nat.zero_add]
      have hj:=aD hv
      exact q4 j v (by simpa using hj) (by simpa using hv)
    simp only [gB,q3,List.length_map,hlen,Nat.zero_add]
    refine ⟨Nat.le_refl _,fun _=>⟨trivial,by omega,by omega,by simp⟩⟩
theorem BU {tm:Fr} {a:Act} {t e:TypeId} {len es:Nat} {ag:Bool} {zs:List AV} {parts:Array (Nat × Operand)} {ps:List (Nat × Nat × AX)} {l:List (Nat × List AV)} (hs:aG E G st w) (hf:er G tm a)
  (ht:P.underlying t=some (.slice e)) (hz:zeroOf P e=some zs) (hp:ga P t parts.toList=some ps) (hsz:cx P e=some es) (hes:0<es) (hlim:len*es≤16777216) (hag:ag=true∨es=1)
  (hl:bY (len*es) ps tm=some l) (hone:(av (cJ zs len) l).all AV.one=true):
  bN P E (Instr.buildSlice t len (parts.map fun (i,x)=>(i,a.eval x))) w G (.sl es ((chunks es len (av (cJ zs len) l)).map (cC ag)) none) st:=by
 obtain ⟨us',k2,hfl,hrun⟩:=kR (w:=w) hf ht hz hp hsz hes hlim hl
 obtain ⟨q1,q2⟩:=ud hs (ij k2 hone) e
 simp only [Array.toArray_toList] at q1 q2
 have hlen: ∀(n:Nat) (cs:List AV),(chunks es n cs).length=n:=by
  intro n
  induction n with
  | zero=>intro cs;rfl
  | succ n ih=>intro cs;simp [chunks,ih]
 refine ⟨_,_,_,hrun,?_,q1,q2⟩
 simp only [aU]
 refine ⟨w.heap.size,0,len,?_,by simp [hlen],trivial,by simp [hlen]⟩
 refine kM hes hag (aW.mono q2.g k2) hfl hone fun j v hv=>?_
 rw [Nat.zero_add]
 show (if w.heap.size=w.heap.size then us'.toList[j]? else _)=some v
 rw [if_pos rfl];exact hv
theorem nA {t e:TypeId} {i:TypeInfo} {zs:List AV} {k k':IntKind} {n m:Int} (mu:Bool) (hs:aG E G st w) (ht:P.underlying t=some (.slice e)) (hz:zeroOf P e=some zs) (hi:P.info? e=some i) (hpos:0<i.size)
    (h:if mu then 0≤n∧m=n∧(i.bytes:Int)*n≤281474976710656 else n=0∧0≤m∧(i.bytes:Int)*m≤281474976710656) (hm:m≤9223372036854775807):
    bN P E (Instr.makeSlice t (.int k n) (.int k' m)) w G (if mu then .row st.length i.size 0 n.toNat else .sl i.size [] (some st.length)) (st++[if mu then .cells (cJ zs n.toNat) else .tail 0]):=by
  obtain ⟨i',z,hi',hz1,hz2,hz3,hz4⟩:=ez hz
  rw [hi] at hi';cases hi'
  have hcells: ∀c:Nat,(madeCells z.cells (c*i.size)).toList=(List.replicate c z.cells.toList).flatten:=by
    intro c
    have:=pX z.cells (by omega) c
    rw [hz2] at this
    simpa [madeCells,hz2] using this
  cases mu with
  | true=>
    simp only [if_true] at h ⊢
    obtain ⟨h0,rfl,hb⟩:=h
    have hrun:=run_make (P:=P) w t e i z ht hi hz1 k k' m m h0 (Int.le_refl _) hb hm
    obtain ⟨q1,q2,q3⟩:=iB hs (pY (hz3 G) m.toNat) e [] (0,0) (.inl rfl)
    have ha:((List.replicate m.toNat z.cells.toList).flatten++[]).toArray=madeCells z.cells (m.toNat*i.size):=by
      rw [List.append_nil,←hcells]
    rw [ha] at q1 q2
    obtain ⟨G',g1,g2,g3,g4,g5,g6⟩:=ir q1 (b:=w.heap.size) Array.getElem?_push_size
    refine ⟨_,_,G',hrun,?_,g2,q2.trans g3⟩
    simp only [aU,g4,q3]
    exact ⟨m.toNat,_,_,Nat.le_refl _,g6,by rw [size_madeCells,Nat.zero_add];exact Nat.le_refl _,by simp⟩
  | false=>
    simp only [Bool.false_eq_true,if_false] at h ⊢
    obtain ⟨rfl,h0,hb⟩:=h
    have hrun:=run_make (P:=P) w t e i z ht hi hz1 k k' 0 m (Int.le_refl _) h0 hb hm
    obtain ⟨G',q1,q2,q3,q4⟩:=mV (n:=0) (k:=0) (w₁ :=w.alloc (.cells (madeCells z.cells (m.toNat*i.size)) e)) hs (by simp) (fun b hb=>Go.RowKit.Below.heap_alloc w _ b hb) Array.getElem?_push_size rfl rfl rfl (Nat.zero_le _)
      (.inl rfl) (fun j v hj _=>by omega)
    refine ⟨_,_,G',hrun,?_,q1,q2⟩
    simp only [aU]
    refine ⟨w.heap.size,0,m.toNat,by simp only [dI],by simp,?_,by simp⟩
    simp only [gB,q3,List.length_nil]
    refine ⟨Nat.le_refl _,fun _=>⟨trivial,by omega,by rw [size_madeCells];omega,by simp⟩⟩
structure iO (P:Program) (G:Gh) (es:Nat) (u:Value) (ys:List AV) (w:World) where
 news:List Value
 vs:List Value
 lenOf: ∀w,(Builtin.lenOf u).run P w= .ok ys.length w
 read:(Builtin.firstCells es ys.length u).run P w= .ok news.toArray w
 len:news.length=ys.length*es
 one: ∀v∈news,v.oneCell'=true
 RW:vs.length=ys.length
 elem: ∀(i:Nat) x v,ys[i]? =some x→vs[i]? =some v→aU G x v∧v.cells.size=es∧ ∀j y,v.cells[j]? =some y→news[i*es+j]? =some y

theorem iq {es b:Nat}: ∀ {xs:List AV} {o:Nat},dI G es b o xs→ ∃vs:List Value,vs.length=xs.length∧((vs.map fun v=>v.cells.toList).flatten).length=xs.length*es∧
    (∀(j:Nat) y,((vs.map fun v=>v.cells.toList).flatten)[j]? =some y→G.M b (o+j)=some y)∧
    ∀(i:Nat) x v,xs[i]? =some x→vs[i]? =some v→aU G x v∧v.cells.size=es∧ ∀j y,v.cells[j]? =some y→((vs.map fun v=>v.cells.toList).flatten)[i*es+j]? =some y
  | [],o,h=>⟨[],rfl,by simp,by simp,by simp⟩
  | x::xs,o,h=>by
    simp only [dI] at h
    obtain ⟨⟨u,h1,h2,h3⟩,h⟩:=h
    obtain ⟨vs,k1,k2,k3,k4⟩:=iq h
    refine ⟨u::vs,by simp [k1],by simp only [List.map_cons,List.flatten_cons,List.length_append,k2,List.length_cons,Array.length_toList,h2,Nat.add_mul];omega,fun j y hy=>?_,fun i x' v hx hv=>?_⟩
    · simp only [List.map_cons,List.flatten_cons] at hy
      rw [List.getElem?_append] at hy
      split at hy
      · exact h3 j y (by simpa using hy)
      rename_i hj
      have:=k3 _ y hy
      rw [←this]
      congr 1
      simp [h2] at hj ⊢
      omega
    simp only [List.map_cons,List.flatten_cons]
    cases i with
    | zero=>
      simp at hx hv
      subst hx;subst hv
      refine ⟨h1,h2,fun j y hy=>?_⟩
      have hj:j<u.cells.toList.length:=by
        have:=aD (show u.cells.toList[j]? =some y by simpa using hy)
        exact this
      rw [Nat.zero_mul,Nat.zero_add,List.getElem?_append_left hj]
      simpa using hy
    | succ i=>
      obtain ⟨q1,q2,q3⟩:=k4 i x' v (by simpa using hx) (by simpa using hv)
      refine ⟨q1,q2,fun j y hy=>?_⟩
      rw [List.getElem?_append_right (by simp [h2,Nat.add_mul];omega)]
      rw [←q3 j y hy]
      congr 1
      simp [h2,Nat.add_mul]
      omega
theorem AS {es:Nat} {y:AV} {u:Value} {ys:List AV} (hs:aG E G st w) (hr:aU G y u) (h:dy es st y=some ys):Nonempty (iO P G es u ys w):=by
 unfold dy at h
 split at h
 ·cases h
  simp only [aU] at hr
  subst hr
  exact ⟨⟨[],[],fun w=>by simp [Builtin.lenOf],by simp [Builtin.firstCells],by simp,by simp,rfl,by simp⟩⟩
 ·rename_i es' xs tok
  split at h
  ·rename_i he
   subst he
   cases h
   simp only [aU] at hr
   obtain ⟨b,o,c,hrs,hlc,_,sp,hsp,rfl⟩:=hr
   obtain ⟨vs,k1,k2,k3,k4⟩:=iq hrs
   refine ⟨⟨_,vs,fun w=>by simp [Builtin.lenOf],?_,k2,fun v hv=>?_,k1,k4⟩⟩
   ·have:=dc (P:=P) (w:=w) (b:=b) (o:=o) (us:=(vs.map fun v=>v.cells.toList).flatten) fun j v hv=>hs.mem _ _ _ (k3 j v hv)
    rw [k2] at this
    rcases hsp with rfl | ⟨h0,_⟩
    ·simpa [Builtin.firstCells] using this
    have h1:ys.length=0:=by omega
    have h2:ys=[]:=List.eq_nil_of_length_eq_zero h1
    subst h2
    rw [h1] at this
    rw [List.length_nil,Nat.zero_mul] at k2
    have h3:(vs.map fun v=>v.cells.toList).flatten=[]:=List.eq_nil_of_length_eq_zero (by simpa using k2)
    rw [h3]
    simp [Builtin.firstCells,loadCells,loadCellsFrom]
   obtain ⟨j,hj⟩:=List.getElem?_of_mem hv
   exact hs.one _ _ _ (k3 j v hj)
  cases h
 ·rename_i id es' off len
  split at h
  ·rename_i he
   obtain ⟨rfl,rfl⟩:=he
   split at h
   ·rename_i cs hc
    split at h
    ·rename_i hl
     obtain ⟨hl,h1⟩:=hl
     cases h
     have hidl:id<G.slots.length:=by rw [hs.len];exact aD hc
     have hob:=hs.obj id _ G.slots[id] hc (by simp [hidl])
     simp only [aU,List.getElem?_eq_getElem hidl] at hr
     generalize G.slots[id]=s at hob hr
     cases s<;>simp only [bl] at hob hr
     rename_i b
     obtain ⟨⟨arr,e',fz,q1,q2,q3,q4⟩,_⟩:=hob
     obtain ⟨c,_,_,_,_,_,rfl⟩:=hr
     have q5:=dO len (dN off q3)
     have hlen:((cs.drop off).take len).length=len:=by simp;omega
     have hone:=ij q5 h1
     rw [Nat.mul_one]
     have hul:(((arr.toList.take cs.length).drop off).take len).length=len:=by rw [aj q5,hlen]
     refine ⟨⟨_,((arr.toList.take cs.length).drop off).take len,fun w=>by simp [Builtin.lenOf];omega,?_,by rw [hul,hlen,Nat.mul_one],hone,by rw [hul,hlen],fun i x v hx hv=>?_⟩⟩
     ·have:=jP (P:=P) q1 (off:=off) (n:=len) (by omega)
      simp only [Builtin.firstCells,hlen,Nat.mul_one]
      rw [this]
      congr 2
      rw [List.drop_take,List.take_take]
      congr 1
      omega
     obtain ⟨v',hv',hr'⟩:=fP q5 i x hx
     rw [hv] at hv';cases hv'
     have hx1:x.one=true:=List.all_eq_true.1 h1 x (List.mem_of_getElem? hx)
     have hcell:=rL hr' (fun cs e=>by subst e;cases hx1)
     refine ⟨hr',by rw [hcell];rfl,fun j y hy=>?_⟩
     rw [hcell] at hy
     match j with
     | 0=>simp at hy;subst hy;simpa using hv
     | j+1=>simp at hy
    cases h
   cases h
  cases h
 ·rename_i s
  split at h
  ·rename_i he
   subst he
   cases h
   simp only [aU] at hr
   obtain ⟨b,rfl,rfl⟩:=hr
   have hsz:b.size=b.data.toList.length:=Array.length_toList.symm
   refine ⟨⟨b.data.toList.map fun x:UInt8=>Value.int .u8 x.toNat,b.data.toList.map fun x:UInt8=>Value.int .u8 x.toNat,fun w=>by simp only [Builtin.lenOf,Sem.run_pure,List.length_map,hsz],?_,by simp,?_,by simp,fun i x v hx hv=>?_⟩⟩
   ·simp only [Builtin.firstCells,List.length_map,Sem.run_pure]
    congr 1
    apply Array.ext'
    have h2:(b.extract 0 b.data.toList.length).data=b.data.extract 0 b.data.toList.length:=by
     simp
     rw [hsz,Array.length_toList,Array.extract_size]
    have h3:b.data.extract 0 b.data.toList.length=b.data:=by rw [Array.length_toList,Array.extract_size]
    rw [h2,h3]
    simp
   ·intro v hv
    simp only [List.mem_map] at hv
    obtain ⟨x,_,rfl⟩:=hv
    rfl
   simp only [List.getElem?_map,Option.map_eq_some_iff] at hx hv
   obtain ⟨p,hp,rfl⟩:=hx
   obtain ⟨q,hq,rfl⟩:=hv
   rw [hp] at hq;cases hq
   refine ⟨by simp only [fW,aU],rfl,fun j y hy=>?_⟩
   match j with
   | 0=>simp [Value.cells] at hy;subst hy;simp [hp]
   | j+1=>simp [Value.cells] at hy
  cases h
 cases h
end
end Go.Proofs.YtcidnoghoifmmaaDoor.AW
