/-
  The abstract walk: code, and what it asks for.
-/
import Derived.Test.YtcidnoghoifmmaaDoorFwVp
namespace Go.Proofs.YtcidnoghoifmmaaDoor.AW
open Go

inductive aC where
 | skip
 | seq (a b:aC)
 | cond (x:AX) (a b:aC)
 | block (id:Nat) (b:aC)
 | loop (b:aC)
 | exit (id:Nat)
 | ret
 | ops (l:List bZ)
 | draw (sas:List AX) (mr nb:Nat) (q suf:List bZ)
 | range (x:AX) (ps:List Nat) (a b:aC)
 deriving Inhabited

inductive cn where
 | normal
 | exit (id:Nat)
 | ret

def qD:Exit→cn→Prop
 | .normal,.normal=>True
 | .exit i,.exit j=>i=j
 | .ret,.ret=>True
 | _,_=>False

def Je (al:List bZ) (nq:Nat):List AX:=Ce ((storeAt (al.take nq)).map (Bz (al.take nq) 8))
def fA (al:List bZ) (nq:Nat):aC:=.draw (Je al nq) (lX al) (qO (al.take nq)) (al.take nq) (al.drop nq)

def nt (P:Program) (ops:Array Oper) (al:List bZ):Option aC:=
 if P.follows .mixedOrders=true then
  (if gJ ops al (lu al)=true then some (fA al (lu al))
  else if gJ ops al (lz false al)=true then some (fA al (lz false al))
  else if gJ ops al (lz true al)=true then some (fA al (lz true al)) else none)
 else none

def IV:bZ:=⟨none,none,.plain (.Rt (.c .aP) (.c .aP))⟩
def bad:aC:=.ops [IV]

theorem lM {P:Program} {ops:Array Oper} {al:List bZ} {c:aC} (h:nt P ops al=some c):P.follows .mixedOrders=true∧ ∃nq,nq≤al.length∧gJ ops al nq=true∧c=fA al nq:=by
 unfold nt at h
 split at h
 ·rename_i hm
  split at h
  ·rename_i hd;cases h;exact ⟨hm,_,pV _,hd,rfl⟩
  split at h
  ·rename_i hd;cases h;exact ⟨hm,_,pW _ _,hd,rfl⟩
  split at h
  ·rename_i hd;cases h;exact ⟨hm,_,pW _ _,hd,rfl⟩
  cases h
 cases h
def NJ (mu:Nat→Bool):Bool:=mu 1000000
def mW (mu:Nat→Bool):Nat→Bool:=fun d=>Nat.beq d 1000000||mu d
theorem LO (mu:Nat→Bool):NJ (mW mu)=true:=rfl
def Vc (P:Program) (N:Nat) (mu:Nat→Bool) (ops:Array Oper):List Nat→Option (List bZ)
  | []=>some []
  | i::l=>match ops[i]? with
    | some o=>match o.op with
      | .move x=>match o.dst,cX x,Vc P N mu ops l with
        | some d,some y,some k=>if d<N then some (⟨some d,none,.plain (.mv y)⟩::k) else none
        | _,_,_=>none
      | _=>none
    | none=>none
def Vo (sas:List AX) (mv:List bZ):Bool:=sas.all fun x=>match x with
 | .t n=>mv.all fun o=>match o.dst with | some d=> !Nat.beq d n | none=>true
 | .c _=>true
def jb (P:Program) (N:Nat) (mu:Nat→Bool) (ops:Array Oper) (al:List bZ) (fs:List Nat):Option aC:=
  if oH ops (oR ops al fs)=true∧wH ops=true∧NY ops=true∧fs.Nodup∧(fs.all (mO ops))=true∧(fs=[]∨NJ mu=false) then
    match (dS ops (oR ops al fs)).toList.mapM (iI P N mu (dS ops (oR ops al fs))),Vc P N mu ops fs with
    | some al',some mv=>match nt P (dS ops (oR ops al fs)) al' with
      | some (.draw sas mr nb q suf)=>if Vo sas mv=true then some (.draw sas mr nb (mv++q) suf) else none
      | _=>none
    | _,_=>none
  else none

def pN (P:Program) (ops:Array Oper) (al:List bZ):Option aC:=
 if P.follows .mixedOrders=true∧gJ ops al (lu al)=true then some (fA al (lu al)) else none
theorem nu {P:Program} {ops:Array Oper} {al:List bZ} {c:aC} (h:pN P ops al=some c):P.follows .mixedOrders=true∧ ∃nq,nq≤al.length∧gJ ops al nq=true∧c=fA al nq:=by
 unfold pN at h
 split at h
 ·rename_i hc;cases h;exact ⟨hc.1,_,pV _,hc.2,rfl⟩
 cases h
def nv (P:Program) (N:Nat) (mu:Nat→Bool) (ops:Array Oper):aC:=
  match ops.toList.mapM (iI P N mu ops) with
  | some al=>match pN P ops al with
    | some c=>c
    | none=>match jb P N mu ops al [] with
      | some c=>c
      | none=>match nt P ops al with
        | some c=>c
        | none=>match jb P N mu ops al (firsts ops) with
          | some c=>c
          | none=>bad
  | none=>bad

theorem qK {P:Program} {N:Nat} {mu:Nat→Bool} {ops:Array Oper} {al:List bZ} {fs:List Nat} {c:aC} (h:jb P N mu ops al fs=some c): ∃sas mr nb q suf,c= .draw sas mr nb q suf:=by
 unfold jb at h
 split at h
 ·split at h
  ·split at h
   ·split at h
    ·cases h;exact ⟨_,_,_,_,_,rfl⟩
    cases h
   cases h
  cases h
 cases h
theorem nH (P:Program) (N:Nat) (mu:Nat→Bool) (ops:Array Oper):nv P N mu ops=bad∨ ∃sas mr nb q suf,nv P N mu ops= .draw sas mr nb q suf:=by
 unfold nv
 split
 ·split
  ·rename_i c hc
   obtain ⟨_,nq,_,_,rfl⟩:=nu hc
   exact .inr ⟨_,_,_,_,_,rfl⟩
  split
  ·rename_i c hc;exact .inr (qK hc)
  split
  ·rename_i c hc
   obtain ⟨_,nq,_,_,rfl⟩:=lM hc
   exact .inr ⟨_,_,_,_,_,rfl⟩
  split
  ·rename_i c hc;exact .inr (qK hc)
  exact .inl rfl
 exact .inl rfl
def bp (P:Program) (N:Nat) (mu:Nat→Bool):Code→Option aC
  | .skip=>some .skip
  | .seq a b=>match bp P N mu a,bp P N mu b with
    | some x,some y=>some (.seq x y)
    | _,_=>none
  | .cond c a b=>match cX c,bp P N mu a,bp P N mu b with
    | some z,some x,some y=>some (.cond z x y)
    | _,_,_=>none
  | .block id b=>(bp P N mu b).map (.block id)
  | .loop b=>(bp P N mu b).map .loop
  | .exit id=>some (.exit id)
  | .ret=>some .ret
  | .region _ ops false=>match ops.toList.mapM (iI P N mu ops) with
    | some al=>some (.ops al)
    | none=>some bad
  | .region _ ops true=>some (nv P N mu ops)
  | .rangeFunc g ps a b=>match cX g,bp P N (mW mu) a,bp P N (mW mu) b with
    | some z,some x,some y=>if NJ mu=false∧ps.toList.all (fun t=>decide (t<N))=true then some (.range z ps.toList x y) else some bad
    | _,_,_=>some bad
  | _=>some bad

def Wk (P:Program) (E:bA) (N:Nat) (mu:Nat→Bool) (c:Code) (Q:cn→Fr→aA→Prop) (tm:Fr) (st:aA):Prop:=
 ∀B ro G a w,(NJ mu=false→ro=none)→Rel B N E G tm st a w→c.wpIn (jW ro) 0 P (fun e a' w'=> ∃x tm' st' G',qD e x∧Rel B N E G' tm' st' a' w'∧Ext G w G' w'∧Q x tm' st') a w

def XLoop (P:Program) (E:bA) (N:Nat) (mu:Nat→Bool) (b:aC) (Q:cn→Fr→aA→Prop) (tm:Fr) (st:aA):Prop:=
 ∀c,bp P N mu c=some b→ ∀B ro G a w,(NJ mu=false→ro=none)→Rel B N E G tm st a w→ ∀(f:Frame) k cs,f.roundOf=ro→ ∃e a' w',(∃x tm' st' G',qD e x∧Rel B N E G' tm' st' a' w'∧Ext G w G' w'∧Q x tm' st')∧ArrivesIn (Machine.fenced P (jW ro)) P (lone (f.atR a (.code c:: .inLoop c::k)) cs w) f k cs e a' w'

def eL (P:Program) (E:bA) (N:Nat) (mu:Nat→Bool):aC→(cn→Fr→aA→Prop)→Fr→aA→Prop
  | .skip,Q,tm,st=>Q .normal tm st
  | .seq a b,Q,tm,st=>eL P E N mu a (fun e tm' st'=>match e with
    | .normal=>eL P E N mu b Q tm' st'
    | .exit i=>Q (.exit i) tm' st'
    | .ret=>Q .ret tm' st') tm st
  | .cond x a b,Q,tm,st=>match tm.x x with
    | .bool t=>(t=true→eL P E N mu a Q tm st)∧(t=false→eL P E N mu b Q tm st)
    | _=>False
  | .block id b,Q,tm,st=>eL P E N mu b (fun e tm' st'=>match e with
    | .normal=>Q .normal tm' st'
    | .exit i=>if i=id then Q .normal tm' st' else Q (.exit i) tm' st'
    | .ret=>Q .ret tm' st') tm st
  | .loop b,Q,tm,st=>XLoop P E N mu b Q tm st
  | .exit id,Q,tm,st=>Q (.exit id) tm st
  | .ret,Q,tm,st=>Q .ret tm st
  | .ops l,Q,tm,st=>eY P E l (Q .normal) tm st
  | .range z ps x y,Q,tm,st=>match tm.x z with
    | .fn f caps=>eH P f=true∧ ∀ca cb,bp P N (mW mu) ca=some x→bp P N (mW mu) cb=some y→
        XCall P E f (.nR st.length::caps) (st++[.loop N ps ca cb tm .ready none]) fun _ st'=> ∃s p,st'[st.length]? =some (.loop N ps ca cb tm s p)∧s≠ .busy∧(match p with
          | none=>Q .normal tm (st'.set st.length .dead)
          | some .ret=>Q .ret tm (st'.set st.length .dead)
          | some (.exit i)=>Q (.exit i) tm (st'.set st.length .dead)
          | _=>False)
    | _=>False
  | .draw sas mr nb q suf,Q,tm,st=>eP P E (jf (sas.map tm.x) st) mr q 0 (fun tm' s=>eY P E suf (Q .normal) tm' s) tm (st++List.replicate nb .bB)

section
variable {P:Program} {E:bA} {N:Nat} {mu:Nat→Bool}

theorem qD.cases {e:Exit} {x:cn} (h:qD e x):(e= .normal∧x= .normal)∨(∃i,e= .exit i∧x= .exit i)∨(e= .ret∧x= .ret):=by
 cases e<;>cases x<;>simp only [qD] at h<;>first
  | exact .inl ⟨rfl,rfl⟩
  | (subst h;exact .inr (.inl ⟨_,rfl,rfl⟩))
  | exact .inr (.inr ⟨rfl,rfl⟩)
theorem xH {Q:cn→Fr→aA→Prop} {tm:Fr} {st:aA} (h:eL P E N mu bad Q tm st):False:=by
 simp only [bad,IV,eL,eY,zV,aE,Fr.x] at h
theorem DM {G:Gh} {st:aA} {w:World} (h:aG E G st w) (x:Obj):aG E G st (w.alloc x)∧Ext G w G (w.alloc x):=by
 have hheap: ∀b,b<w.heap.size→(w.alloc x).heap[b]? =w.heap[b]? :=fun b hb=>Go.RowKit.Below.heap_alloc w x b hb
 refine ⟨⟨h.len,fun i o s ho hs=>?_,h.apart,fun b o u hu=>?_,h.one,fun b e n hx=>?_,h.gG⟩,⟨cj.refl G,rfl,rfl,rfl,by simp,fun b hb _=>hheap b hb,fun _ _ _ h=>.inl h,fun s hs _ hb=>.inl ⟨s,hs,hb⟩⟩⟩
 ·have hr:=h.obj i o s ho hs
  exact hr.keep (cj.refl G) (fun b hb=>hheap b (hr.block hb)) fun b o u _ hu=>hu
 ·exact (World.cell?_alloc_lt (w:=w) (a:=⟨b,o,none⟩) (o:=x) (h.cV hu)).trans (h.mem b o u hu)
 obtain ⟨arr,fz,h1,h2⟩:=h.jU b e n hx
 exact ⟨arr,fz,by rw [hheap b (h.RQ hx)];exact h1,h2⟩
theorem si {G:Gh} {st:aA} {w:World} (h:aG E G st w) {id b:Nat} {ps:List Nat} {ca cb:Code} {tm:Fr} {s s':LoopState} {p p':Option Code} (ho:st[id]? =some (.loop N ps ca cb tm s p)) (hsl:G.slots[id]? =some (.box b)):
  ∃r:Loop,w.heap[b]? =some (.loop r)∧r.state=s∧r.pending=p∧r.params=ps.toArray∧r.assign=ca∧r.body=cb∧r.tmps.size=N∧(∀t,aU G (tm t) (r.tmps.getD t undef))∧
   aG E {slots:=G.slots.set id (.box b),M:=G.M,sh:=G.sh} (st.set id (.loop N ps ca cb tm s' p')) (w.putObj b (.loop {r with state:=s',pending:=p'}))∧
   Ext G w {slots:=G.slots.set id (.box b),M:=G.M,sh:=G.sh} (w.putObj b (.loop {r with state:=s',pending:=p'})):=by
 obtain ⟨⟨fn,T,D,h1,h2,h3⟩,h5⟩:=h.obj id _ _ ho hsl
 refine ⟨_,h1,rfl,rfl,rfl,rfl,rfl,h2,h3,?_⟩
 have hl:=wM h1
 have hid:=aD hsl
 have es:G.slots.set id (.box b)=G.slots:=by
  refine List.ext_getElem? fun i=>?_
  by_cases e:id=i
  ·subst e;rw [List.getElem?_set_self hid,hsl]
  rw [List.getElem?_set_ne e]
 have eg:({slots:=G.slots.set id (.box b),M:=G.M,sh:=G.sh}:Gh)=G:=by rw [es]
 refine kU h hsl rfl rfl (.inl rfl) (fun k _ hk=>World.putObj_heap_other hk) (by simp) rfl rfl rfl (fun e n hx=>?_) (by rw [eg];exact cj.refl G) (fun _ _ _ hu=>.inl hu) (fun b' o u hu hb=>?_) ?_
 ·obtain ⟨arr,fz,k1,_⟩:=h.jU b e n hx
  rw [h1] at k1;cases k1
 ·exfalso
  rcases hb with rfl | hb
  ·exact h5 o u hu
  have:=h.cV hu;omega
 rw [eg]
 exact ⟨⟨fn,T,D,World.putObj_heap_same hl,h2,h3⟩,h5⟩
theorem yt {B:Nat} {G:Gh} {tm:Fr} {st:aA} {a:Act} {w:World} {g:Operand} {ps:Array Tmp} {ca cb:Code} {v:AV} {f:FuncId} {caps:List AV} {Q:cn→Fr→aA→Prop}
    (h:Rel B N E G tm st a w) (hv:aU G v (a.eval g)) (hf:v= .fn f caps) (hcal:eH P f=true)
    (hx:XCall P E f (.nR st.length::caps) (st++[.loop N ps.toList ca cb tm .ready none]) fun _ st'=> ∃s p,st'[st.length]? =some (.loop N ps.toList ca cb tm s p)∧s≠ .busy∧(match p with
          | none=>Q .normal tm (st'.set st.length .dead)
          | some .ret=>Q .ret tm (st'.set st.length .dead)
          | some (.exit i)=>Q (.exit i) tm (st'.set st.length .dead)
          | _=>False)):
    (Code.rangeFunc g ps ca cb).wpIn (jW none) 0 P (fun e a' w'=> ∃x tm' st' G',qD e x∧Rel B N E G' tm' st' a' w'∧Ext G w G' w'∧Q x tm' st') a w:=by
  refine wpIn_rangeFunc fun fn _=>?_
  rw [hf] at hv
  simp only [aU] at hv
  obtain ⟨us,hus,hev⟩:=hv
  obtain ⟨s1,e1⟩:=DM h.st (.deferred (some []))
  have hsz:(w.alloc (.deferred (some []))).heap.size=w.heap.size+1:=by simp
  have hnew: ∀o u,G.M (w.alloc (.deferred (some []))).heap.size o≠some u:=fun o u hu=>by have:=s1.cV hu;omega
  have hgp:cj G (G.push (.box (w.alloc (.deferred (some []))).heap.size) G.M):=cj.push fun _ _ _ h=>h
  let R:Loop:={state:=.ready,pending:=none,fn:=fn,tmps:=a.tmps,params:=ps,assign:=ca,body:=cb,defers:=w.heap.size}
  obtain ⟨s2,e2⟩:=oW s1 (o:=.loop N ps.toList ca cb tm .ready none) (s:=.box (w.alloc (.deferred (some []))).heap.size) (M:=G.M) (x:=.loop R) (fun _ _ _ h=>h) (fun _ _ _ h=>.inl h)
    (fun o u hu=>absurd hu (hnew o u)) (.inl rfl) ⟨⟨fn,a.tmps,w.heap.size,Array.getElem?_push_size,h.size,fun t=>(h.fr t).mono hgp⟩,hnew⟩
  refine ⟨w.heap.size+1,[{target:=.collected w.heap.size,args:= #[]}],(w.alloc (.deferred (some []))).alloc (.loop R),{target:=.fn (.func f) us.toArray,args:= #[]++ #[.func (.yield (w.heap.size+1)) #[] #[]]},(w.alloc (.deferred (some []))).alloc (.loop R),f,#[]++ #[.func (.yield (w.heap.size+1)) #[] #[]]++us.toArray,(w.alloc (.deferred (some []))).alloc (.loop R),run_enterLoop_outer fn a.tmps ps ca cb,?_,fun _ _=>trivial,?_,wY rfl,?_⟩
  · simp only [resolve,rangeCall]
    rw [hev]
    simp [Deferred.ofValue,Act.eval]
  · simp only [invoke]
    exact jx hcal
  have hslot:(G.push (.box (w.alloc (.deferred (some []))).heap.size) G.M).slots[st.length]? =some (.box (w.heap.size+1)):=by
    simp only [Gh.push]
    rw [←h.st.len,List.getElem?_append_right (Nat.le_refl _)]
    simp
  have hrepl:aW (G.push (.box (w.alloc (.deferred (some []))).heap.size) G.M) (.nR st.length::caps) (.func (.yield (w.heap.size+1)) #[] #[]::us):=by
    simp only [aW]
    refine ⟨_,us,rfl,?_,aW.mono hgp hus⟩
    simp only [aU,hslot]
  have hargs:(#[]++ #[Value.func (.yield (w.heap.size+1)) #[] #[]]++us.toArray:Array Value)=(Value.func (.yield (w.heap.size+1)) #[] #[]::us).toArray:=by
    apply Array.ext'
    simp
  rw [hargs]
  refine (callsIn_wide.2 (hx _ _ _ hrepl s2)).mono (F:=Fence.wide) fun e w3 ⟨u,r,st',G',he,_,hs3,hext3,s,p,hst',hne,hq⟩=>?_
  subst he
  have hb3:G'.slots[st.length]? =some (.box (w.heap.size+1)):=by
    rcases hext3.g.box _ _ hslot with h' | h'
    · exact h'
    exact absurd (hs3.obj _ _ _ hst' h') (by simp [bl])
  obtain ⟨r3,k1,k2,k3,k4,k5,k6,k7,k8,s4,e4⟩:=si (s':=.exhausted) (p':=p) hs3 hst' hb3
  refine ⟨p,_,by rw [←k3];exact run_endLoop k1 (by rw [k2];exact hne),?_⟩
  obtain ⟨s5,e5⟩:=yV (id:=st.length) s4 (by rw [List.length_set];exact aD hst')
  have hset:(st'.set st.length (.loop N ps.toList ca cb tm .exhausted p)).set st.length .dead=st'.set st.length .dead:=List.set_set ..
  rw [hset] at s5
  have hw4:w3.putObj (w.heap.size+1) (.loop {r3 with state:=.exhausted,pending:=p})=w3.putObj (w.heap.size+1) (.loop {r3 with state:=.exhausted}):=by rw [←k3]
  rw [hw4] at s5 e5 e4
  have hall:Ext G w _ (w3.putObj (w.heap.size+1) (.loop {r3 with state:=.exhausted})):=e1.trans (e2.trans (hext3.trans (e4.trans e5)))
  have hD1:((w.alloc (.deferred (some []))).alloc (.loop R)).heap[w.heap.size]? =some (.deferred (some [])):=by
    rw [Go.RowKit.Below.heap_alloc _ _ _ (by omega)]
    exact World.alloc_heap_new w _
  have hDu: ∀s∈(G.push (.box (w.alloc (.deferred (some []))).heap.size) G.M).slots,s.blk≠some w.heap.size:=fun s hs hb=>by
    simp only [Gh.push,List.mem_append,List.mem_singleton] at hs
    rcases hs with hs | rfl
    · have:=h.st.block hs hb;omega
    simp only [Slot.blk,Option.some.injEq,hsz] at hb;omega
  have hm1:Marks B (G.push (.box (w.alloc (.deferred (some []))).heap.size) G.M) ({target:=.collected w.heap.size,args:= #[]}::a.defers) ((w.alloc (.deferred (some []))).alloc (.loop R)):=by
    obtain ⟨b0,ms,m1,m2,m3⟩:=h.defers.ext (e1.trans e2)
    obtain ⟨c0,ns,n1,n2,n3⟩:=h.defers
    have ens:ms=ns:=by
      rw [m1] at n1
      exact (List.map_inj_right fun x y hxy=>by simpa using hxy).1 n1
    subst ens
    refine ⟨b0,w.heap.size::ms,by rw [List.map_cons,m1],List.nodup_cons.2 ⟨fun hD=>?_,m2⟩,fun D hD=>?_⟩
    · have:=wM (n3 _ hD).2.1;omega
    rcases List.mem_cons.1 hD with rfl | hD
    · exact ⟨c0,hD1,hDu⟩
    exact m3 D hD
  have hrel:Rel B N E _ tm (st'.set st.length .dead) {a with defers:=[{target:=.collected w.heap.size,args:= #[]}]++a.defers} (w3.putObj (w.heap.size+1) (.loop {r3 with state:=.exhausted})):=
    ⟨h.size,hm1.ext (hext3.trans (e4.trans e5)),h.fr.mono hall.g,s5⟩
  cases p with
  | none=>exact ⟨.normal,tm,_,_,trivial,hrel,hall,hq⟩
  | some c=>
    cases c with
    | ret=>exact wpIn_ret ⟨.ret,tm,_,_,trivial,hrel,hall,hq⟩
    | exit i=>exact wpIn_exit ⟨.exit i,tm,_,_,rfl,hrel,hall,hq⟩
    | _=>exact hq.elim
theorem yZ {sst:aA} {mr:Nat} {K:Fr→aA→Prop} {B:Nat} {G:Gh} {ops:Array Oper}: ∀(fs:List Nat) (mv q:List bZ) (tm:Fr) (st s:aA) (a:Act) (w:World),Vc P N mu ops fs=some mv→Rel B N E G tm st a w→eP P E sst mr (mv++q) 0 K tm s→
    ∃tm',Rel B N E G tm' st (qE ops fs a) w∧eP P E sst mr q 0 K tm' s∧ ∀n,(mv.all fun o=>match o.dst with | some d=> !Nat.beq d n | none=>true)=true→tm' n=tm n
  | [],mv,q,tm,st,s,a,w,hm,hr,hx=>by
    simp only [Vc,Option.some.injEq] at hm;subst hm
    exact ⟨tm,hr,hx,fun _ _=>rfl⟩
  | i::fs,mv,q,tm,st,s,a,w,hm,hr,hx=>by
    simp only [Vc] at hm
    split at hm
    · rename_i o ho
      split at hm
      · rename_i x hop
        split at hm
        · rename_i d y k hd hy hk
          split at hm
          · rename_i hlt
            cases hm
            simp only [List.cons_append,eP,yv,qv] at hx
            obtain ⟨v,e,s',⟨_,h1,rfl⟩,h2,h3⟩:=hx
            simp only [aE,Option.some.injEq,Prod.mk.injEq,and_true] at h1
            subst h1
            simp only [cY.DO,cY.app,cY.id,Option.some.injEq] at h2
            subst h2
            have hr':Rel B N E G (tm.put (some d) (tm.x y)) st (a.put o.dst (a.eval x)) w:=by
              rw [hd]
              exact hr.put (fun z hz=>by cases hz;exact hlt) (bV hr.fr hy)
            obtain ⟨tm',q1,q2,q3⟩:=yZ fs k q _ st s _ w hk hr' h3
            refine ⟨tm',by simpa only [qE,ho,hop] using q1,q2,fun n hn=>?_⟩
            simp only [List.all_cons,Bool.and_eq_true] at hn
            rw [q3 n hn.2]
            have hne:d≠n:=fun e=>by subst e;simp at hn
            simp [Fr.put,hne]
          cases hm
        cases hm
      cases hm
    cases hm
theorem tv {B:Nat} {ro:Option Nat} {id:Nat} {ops:Array Oper} {al:List bZ} {fs:List Nat} {c:aC} (hc:jb P N mu ops al fs=some c) {Q:cn→Fr→aA→Prop} {G:Gh} {tm:Fr} {st:aA} {a:Act} {w:World} (hro:NJ mu=false→ro=none)
  (h:Rel B N E G tm st a w) (hx:eL P E N mu c Q tm st):(Code.region id ops true).wpIn (jW ro) 0 P (fun e a' w'=> ∃x tm' st' G',qD e x∧Rel B N E G' tm' st' a' w'∧Ext G w G' w'∧Q x tm' st') a w:=by
 unfold jb at hc
 split at hc
 ·rename_i hcond
  obtain ⟨hg,he,hsel,hfn,hff,hfr⟩:=hcond
  split at hc
  ·rename_i al' mv hal' hmv
   split at hc
   ·rename_i sas mr nb q suf hdr
    split at hc
    ·rename_i hsas
     cases hc
     obtain ⟨hmx,nq,hle,hcond,heq⟩:=lM hdr
     simp only [fA,aC.draw.injEq] at heq
     obtain ⟨rfl,rfl,rfl,rfl,rfl⟩:=heq
     simp only [eL] at hx
     obtain ⟨tm',hr',hx',hsame⟩:=yZ fs mv _ tm st _ a w hmv h hx
     have esas:(Je al' nq).map tm.x=(Je al' nq).map tm'.x:=by
      refine List.map_congr_left fun x hx=>?_
      have:=List.all_eq_true.1 hsas x hx
      cases x with
      | c v=>rfl
      | t n=>exact (hsame n this).symm
     rw [esas] at hx'
     obtain ⟨hp,hall⟩:=BL ops al fs
     refine wpIn_region_any hmx (HX hp hall hg he (BH hsel) (fun c a w hh=>?_) hfn (fun i hi=>List.all_eq_true.1 hff i hi) (hfr.imp (fun e=>e) hro) a _ ?_)
     ·obtain ⟨x,_,_,_,hex,_⟩:=hh
      exact hex
     have key:=xz (Q:=fun e a' w'=> ∃x tm' st' G',qD e x∧Rel B N E G' tm' st' a' w'∧Ext G w G' w'∧Q x tm' st') (ro:=ro) _ hle hal' hcond hr' hx' fun G' tm' st' a' w' q1 q2 q3=>⟨.normal,tm',st',G',trivial,q1,q2,q3⟩
     rw [oT hp] at key
     exact key
    cases hc
   cases hc
  cases hc
 cases hc
theorem gF: ∀(c:Code) (ac:aC),bp P N mu c=some ac→ ∀(Q:cn→Fr→aA→Prop) (tm:Fr) (st:aA),eL P E N mu ac Q tm st→Wk P E N mu c Q tm st
  | .skip,ac,hc,Q,tm,st,hx=>fun B ro G a w hro h=>by
    simp only [bp,Option.some.injEq] at hc;subst hc
    exact wpIn_skip ⟨.normal,tm,st,G,trivial,h,Ext.refl G w,hx⟩
  | .ret,ac,hc,Q,tm,st,hx=>fun B ro G a w hro h=>by
    simp only [bp,Option.some.injEq] at hc;subst hc
    exact wpIn_ret ⟨.ret,tm,st,G,trivial,h,Ext.refl G w,hx⟩
  | .exit id,ac,hc,Q,tm,st,hx=>fun B ro G a w hro h=>by
    simp only [bp,Option.some.injEq] at hc;subst hc
    exact wpIn_exit ⟨.exit id,tm,st,G,rfl,h,Ext.refl G w,hx⟩
  | .seq x y,ac,hc,Q,tm,st,hx=>fun B ro G a w hro h=>by
    simp only [bp] at hc
    split at hc
    · rename_i ax ay h1 h2
      cases hc
      simp only [eL] at hx
      refine wpIn_seq (wpIn_mono (gF x ax h1 _ tm st hx B ro G a w hro h) fun e a' w' ⟨xe,tm',st',G',he,hr,hext,hq⟩=>?_)
      rcases he.cases with ⟨rfl,rfl⟩ | ⟨i,rfl,rfl⟩ | ⟨rfl,rfl⟩
      · simp only at hq
        exact wpIn_mono (gF y ay h2 Q tm' st' hq B ro G' a' w' hro hr) fun e a'' w'' ⟨xe,tm'',st'',G'',q1,q2,q3,q4⟩=>⟨xe,tm'',st'',G'',q1,q2,hext.trans q3,q4⟩
      · exact ⟨.exit i,tm',st',G',rfl,hr,hext,hq⟩
      exact ⟨.ret,tm',st',G',trivial,hr,hext,hq⟩
    cases hc
  | .cond c x y,ac,hc,Q,tm,st,hx=>fun B ro G a w hro h=>by
    simp only [bp] at hc
    split at hc
    · rename_i ax a1 a2 h0 h1 h2
      cases hc
      simp only [eL] at hx
      split at hx
      · rename_i t ht
        have hr:=bV h.fr h0
        rw [ht] at hr
        simp only [aU] at hr
        exact wpIn_cond_split hr (fun e=>gF x a1 h1 Q tm st (hx.1 e) B ro G a w hro h) (fun e=>gF y a2 h2 Q tm st (hx.2 e) B ro G a w hro h)
      exact hx.elim
    cases hc
  | .block id b,ac,hc,Q,tm,st,hx=>fun B ro G a w hro h=>by
    simp only [bp,Option.map_eq_some_iff] at hc
    obtain ⟨ab,hb,rfl⟩:=hc
    simp only [eL] at hx
    refine wpIn_block (wpIn_mono (gF b ab hb _ tm st hx B ro G a w hro h) fun e a' w' ⟨xe,tm',st',G',he,hr,hext,hq⟩=>?_)
    rcases he.cases with ⟨rfl,rfl⟩ | ⟨i,rfl,rfl⟩ | ⟨rfl,rfl⟩
    · exact ⟨.normal,tm',st',G',trivial,hr,hext,hq⟩
    · simp only at hq
      simp only [Exit.inBlock]
      split
      · rename_i hi
        rw [if_pos hi] at hq
        exact ⟨.normal,tm',st',G',trivial,hr,hext,hq⟩
      rename_i hi
      rw [if_neg hi] at hq
      exact ⟨.exit i,tm',st',G',rfl,hr,hext,hq⟩
    exact ⟨.ret,tm',st',G',trivial,hr,hext,hq⟩
  | .loop b,ac,hc,Q,tm,st,hx=>by
    simp only [bp,Option.map_eq_some_iff] at hc
    obtain ⟨ab,hb,rfl⟩:=hc
    intro B ro G a w hro h f k cs hf _ _
    obtain ⟨e,a',w',hq,harr⟩:=hx b hb B ro G a w hro h f k cs hf
    exact ⟨e,a',w',hq,.of_steps (.one (fenced_calm (n:=0) trivial (sS _) rfl) stepR_loop) harr⟩
  | .region id ops d,ac,hc,Q,tm,st,hx=>fun B ro G a w hro h=>by
    cases d with
    | true=>
      simp only [bp,Option.some.injEq] at hc
      subst hc
      unfold nv at hx
      split at hx
      · rename_i al hal
        split at hx
        · rename_i cc hcc
          obtain ⟨hmx,nq,hle,hcond,rfl⟩:=nu hcc
          simp only [eL,fA] at hx
          exact sO _ hle hmx hal hcond h hx fun G' tm' st' a' w' q1 q2 q3=>⟨.normal,tm',st',G',trivial,q1,q2,q3⟩
        split at hx
        · rename_i cc hcc
          exact tv hcc hro h hx
        split at hx
        · rename_i cc hcc
          obtain ⟨hmx,nq,hle,hcond,rfl⟩:=lM hcc
          simp only [eL,fA] at hx
          exact sO _ hle hmx hal hcond h hx fun G' tm' st' a' w' q1 q2 q3=>⟨.normal,tm',st',G',trivial,q1,q2,q3⟩
        split at hx
        · rename_i cc hcc
          exact tv hcc hro h hx
        exact (xH hx).elim
      exact (xH hx).elim
    | false=>
      simp only [bp] at hc
      split at hc
      case h_2=>cases hc;exact (xH hx).elim
      rename_i al hal
      cases hc
      simp only [eL] at hx
      exact wpIn_region_list (qY ops.toList al hal h hx fun G' tm' st' a' w' q1 q2 q3=>⟨.normal,tm',st',G',trivial,q1,q2,q3⟩)
  | .rangeFunc g ps ca cb,ac,hc,Q,tm,st,hx=>fun B ro G a w hro h=>by
    simp only [bp] at hc
    split at hc
    · rename_i z x y hz hx1 hy1
      split at hc
      · rename_i hin
        cases hc
        simp only [eL] at hx
        split at hx
        · rename_i f caps hf
          have e:=hro hin.1;subst e
          exact yt h (bV h.fr hz) hf hx.1 (hx.2 ca cb hx1 hy1)
        exact hx.elim
      cases hc;exact (xH hx).elim
    cases hc;exact (xH hx).elim
  | .scope _,ac,hc,_,_,_,hx=>by simp only [bp] at hc;cases hc;exact (xH hx).elim
  | .label _,ac,hc,_,_,_,hx=>by simp only [bp] at hc;cases hc;exact (xH hx).elim
  | .goto _,ac,hc,_,_,_,hx=>by simp only [bp] at hc;cases hc;exact (xH hx).elim
  | .refuse _,ac,hc,_,_,_,hx=>by simp only [bp] at hc;cases hc;exact (xH hx).elim

inductive RA where
 | tmp (t:Nat)
 | xq (a:Nat)
 | mg (a n:Nat)
 deriving Inhabited

def nw (P:Program):ResultVar→Option RA
  | .tmp t=>some (.tmp t)
  | .cell a t=>match dU P t,cx P t with
    | some true,some n=>some (.mg a n)
    | some false,some _=>some (.xq a)
    | _,_=>none

def mE (E:bA) (tm:Fr) (st:aA):RA→Option AV
  | .tmp t=>some (tm t)
  | .xq a=>match cq E st 1 (tm a) with
    | some cs=>some (cs.headD (.bt []))
    | none=>none
  | .mg a n=>match cq E st n (tm a) with
    | some cs=>some (.agg cs)
    | none=>none

def fh (E:bA) (tm:Fr) (st:aA):List RA→Option (List AV)
  | []=>some []
  | r::l=>match mE E tm st r,fh E tm st l with
    | some v,some vs=>some (v::vs)
    | _,_=>none

def pack:List AV→AV
 | [v]=>v
 | vs=>.bt vs

def lT (ds:List AV):Fr:=fun t=>(ds[t]?).getD (.bt [])

structure xN where
 n:Nat
 body:aC
 res:List RA
 deriving Inhabited

def dQ (l:List Nat) (d:Nat):Bool:=l.contains d

def au (P:Program) (mu:Nat→Bool) (f:FuncId):Option xN:=
  match P.funcs[f]? with
  | some fn=>match fn.body with
    | some c=>match bp P fn.ntmps mu c,fn.results.toList.mapM (nw P) with
      | some ac,some rs=>some ⟨fn.ntmps,ac,rs⟩
      | _,_=>none
    | none=>none
  | none=>none

def pe (tmps:Array Value):ResultVar→Sem Value
 | .tmp t=>pure (tmps.getD t undef)
 | .cell p t=>do loadVar t (←asAddr (tmps.getD p undef))

theorem BR (fn:Func) (tmps:Array Value):results fn tmps=(do
  let vs ←fn.results.mapM (pe tmps)
  pure (if h:vs.size=1 then vs[0] else .tuple vs)):=by
 have key: ∀r:ResultVar,(match r with
  | .tmp t=>pure (tmps.getD t undef)
  | .cell a t=>do loadVar t (←asAddr (tmps.getD a undef)):Sem Value)=pe tmps r:=fun r=>by cases r<;>rfl
 exact congrArg (fun f=>(do
  let vs ←fn.results.mapM f
  pure (if h:vs.size=1 then vs[0] else .tuple vs):Sem Value)) (funext key)
theorem JQ {G:Gh} {rv:List AV} {us:List Value} (h:aW G rv us):aU G (pack rv) (if h:us.toArray.size=1 then us.toArray[0] else .tuple us.toArray):=by
 have hlen:=aj h
 rcases rv with _ | ⟨v,_ | ⟨v',rest⟩⟩
 ·have:us=[]:=List.eq_nil_of_length_eq_zero hlen
  subst this
  simp only [pack,aU,aW]
  exact ⟨[],rfl,rfl⟩
 ·simp only [aW] at h
  obtain ⟨u,us',rfl,hr,rfl⟩:=h
  exact hr
 have h2:us.toArray.size≠1:=by simp at hlen ⊢;omega
 rw [dif_neg h2]
 simp only [pack,aU]
 exact ⟨us,h,rfl⟩
theorem wq {B:Nat} {G:Gh} {tm:Fr} {st:aA} {a:Act} {w:World} (h:Rel B N E G tm st a w) {r:ResultVar} {x:RA} {v:AV} (hc:nw P r=some x) (hv:mE E tm st x=some v):
    ∃u,(pe a.tmps r).run P w= .ok u w∧aU G v u:=by
  cases r with
  | tmp t=>
    simp only [nw,Option.some.injEq] at hc;subst hc
    simp only [mE,Option.some.injEq] at hv;subst hv
    exact ⟨_,rfl,h.fr t⟩
  | cell p t=>
    simp only [nw] at hc
    split at hc
    · rename_i n ha hn
      cases hc
      simp only [mE] at hv
      split at hv
      · rename_i cs hcs
        cases hv
        obtain ⟨b,o,us,hu,hrl,hl,hcell⟩:=gp h.st (h.fr p) hcs
        have hrun:=dc (P:=P) hcell
        rw [hl] at hrun
        refine ⟨.agg us.toArray,?_,by simp only [aU];exact ⟨us,hrl,rfl⟩⟩
        simp only [pe,hu,asAddr,pure_bind,loadVar,Sem.run_bind,iN ha,Result.andThen_ok,if_true,run_sizeOf hn,hrun,Sem.run_pure]
      cases hv
    · rename_i ha hn
      cases hc
      simp only [mE] at hv
      split at hv
      · rename_i cs hcs
        cases hv
        obtain ⟨b,o,us,hu,hrl,hl,hcell⟩:=gp h.st (h.fr p) hcs
        match us,hl with
        | [x],_=>
          match cs,aj hrl with
          | [c],_=>
            simp only [aW] at hrl
            obtain ⟨x',us',e,hx,_⟩:=hrl
            cases e
            refine ⟨x,?_,hx⟩
            have:=hcell 0 x rfl
            simp only [Nat.add_zero] at this
            simp [pe,hu,asAddr,loadVar,iN ha,this]
      cases hv
    cases hc
theorem tc {B:Nat} {G:Gh} {tm:Fr} {st:aA} {a:Act} {w:World} (h:Rel B N E G tm st a w): ∀ {rs:List ResultVar} {xs:List RA} {vs:List AV},rs.mapM (nw P)=some xs→fh E tm st xs=some vs→
    ∃us,(rs.mapM (pe a.tmps)).run P w=Result.ok us w∧aW G vs us
  | [],xs,vs,hc,hv=>by
    simp at hc;subst hc
    simp only [fh,Option.some.injEq] at hv;subst hv
    exact ⟨[],by simp,by simp [aW]⟩
  | r::rs,xs,vs,hc,hv=>by
    simp only [List.mapM_cons,Option.bind_eq_bind,Option.bind_eq_some_iff,Option.pure_def,Option.some.injEq] at hc
    obtain ⟨x,hx,ys,hys,rfl⟩:=hc
    simp only [fh] at hv
    split at hv
    · rename_i v vs' h1 h2
      cases hv
      obtain ⟨u,hu,hr⟩:=wq h hx h1
      obtain ⟨us,hus,hrs⟩:=tc h hys h2
      refine ⟨u::us,?_,by simp only [aW];exact ⟨u,us,rfl,hr,hrs⟩⟩
      simp only [List.mapM_cons,Sem.run_bind,hu,Result.andThen_ok,hus,Sem.run_pure]
    cases hv
theorem leaves {B:Nat} {fn:Func} {R:Ending→World→Prop} {G0:Gh} {w0:World} {tmps:Array Value} {tm:Fr} {st:aA} (hB:w0.heap.size≤B)
    (fin: ∀G w,Rel B N E G tm st {tmps:=tmps,defers:=[]} w→Ext G0 w0 G w→ ∃v,(results fn tmps).run P w= .ok v w∧R (.returned v) w):
    ∀(l:List Deferred) (G:Gh) (w:World),Rel B N E G tm st {tmps:=tmps,defers:=l} w→Ext G0 w0 G w→LeavesInM Fence.wide 0 P fn tmps R l .returning w
  | [],G,w,hr,he=>by
    obtain ⟨v,h1,h2⟩:=fin G w hr he
    exact ⟨v,h1,h2⟩
  | d::l,G,w,hr,he=>by
    obtain ⟨b0,ms,m1,m2,m3⟩:=hr.defers
    cases ms with
    | nil=>cases m1
    | cons D ms=>
      simp only [List.map_cons,List.cons.injEq] at m1
      obtain ⟨rfl,rfl⟩:=m1
      obtain ⟨k1,k2,k3⟩:=m3 D List.mem_cons_self
      have hheap: ∀b,b≠D→(w.putObj D (.deferred none)).heap[b]? =w.heap[b]? :=fun b hb=>World.putObj_heap_other hb
      have hcell: ∀b o,b≠D→(w.putObj D (.deferred none)).cell? ⟨b,o,none⟩=w.cell? ⟨b,o,none⟩:=fun b o hb=>by simp only [World.cell?,hheap b hb]
      have hM: ∀b o u,G.M b o=some u→b≠D:=fun b o u hu e=>by
        subst e
        have:=hr.st.mem b o u hu
        simp [World.cell?,k2] at this
      have hst:aG E G st (w.putObj D (.deferred none)):=by
        refine ⟨hr.st.len,fun i o s ho hs=>?_,hr.st.apart,fun b o u hu=>?_,hr.st.one,fun b e n hx=>?_,hr.st.gG⟩
        · exact (hr.st.obj i o s ho hs).keep (cj.refl G) (fun b hb=>hheap b fun e=>k3 s (List.mem_of_getElem? hs) (by rw [hb,e])) fun b o u _ hu=>hu
        · rw [hcell b o (hM b o u hu)];exact hr.st.mem b o u hu
        obtain ⟨arr,fz,q1,q2⟩:=hr.st.jU b e n hx
        exact ⟨arr,fz,by rw [hheap b fun e=>by subst e;rw [k2] at q1;cases q1];exact q1,q2⟩
      have hext:Ext G0 w0 G (w.putObj D (.deferred none)):=by
        refine ⟨he.g,he.os,he.tape,he.output,by simpa using he.size,fun b hb hn=>?_,he.uM,he.sx⟩
        rw [hheap b (by omega)];exact he.block b hb hn
      have hrel:Rel B N E G tm st {tmps:=tmps,defers:=ms.map fun D=>{target:=.collected D,args:= #[]}} (w.putObj D (.deferred none)):=by
        refine ⟨hr.size,⟨by simpa using b0,ms,rfl,(List.nodup_cons.1 m2).2,fun D' hD'=>?_⟩,hr.fr,hst⟩
        obtain ⟨q1,q2,q3⟩:=m3 D' (List.mem_cons_of_mem _ hD')
        exact ⟨q1,by rw [hheap D' fun e=>(List.nodup_cons.1 m2).1 (e▸hD')];exact q2,q3⟩
      exact ⟨by simp,.inl ⟨D,_,rfl,run_takeDeferred k2,leaves hB fin _ G _ hrel hext⟩⟩
theorem RX {f:FuncId} {fn:xN} {ds:List AV} {st:aA} {K:AV→aA→Prop} (hf:au P mu f=some fn) (hl:ds.length≤fn.n)
    (hx: ∀c,bp P fn.n mu c=some fn.body→Wk P E fn.n mu c (fun e tm st'=>match e with
      | .exit _=>False
      | _=>match fh E tm st' fn.res with
        | some vs=>K (pack vs) st'
        | none=>False) (lT ds) st):XCall P E f ds st K:=by
  intro G w vs hr hs
  unfold au at hf
  split at hf
  · rename_i fn' hfn
    split at hf
    · rename_i c hb
      split at hf
      · rename_i ac rs hac hrs
        cases hf
        have hlen:=aj hr
        have hrel:Rel w.heap.size fn'.ntmps E G (lT ds) st {tmps:=vs.toArray++Array.replicate (fn'.ntmps-vs.toArray.size) undef,defers:=[]} w:=by
          refine ⟨by simp;simp at hl;omega,Marks.nil G (Nat.le_refl _),fun t=>?_,hs⟩
          simp only [lT]
          by_cases ht:t<ds.length
          · have h1:ds[t]? =some ds[t]:=by simp [ht]
            obtain ⟨u,hu,hru⟩:=fP hr t _ h1
            have h2:(vs.toArray++Array.replicate (fn'.ntmps-vs.toArray.size) undef).getD t undef=u:=by
              simp only [Array.getD_eq_getD_getElem?]
              rw [Array.getElem?_append_left (by simp;omega)]
              simp [hu]
            rw [h1,h2]
            exact hru
          rw [List.getElem?_eq_none (by omega)]
          have h2:(vs.toArray++Array.replicate (fn'.ntmps-vs.toArray.size) undef).getD t undef=undef:=by
            simp only [Array.getD_eq_getD_getElem?]
            rw [Array.getElem?_append_right (by simp;omega)]
            rw [Array.getElem?_replicate]
            split<;>rfl
          rw [h2]
          exact ji G
        refine callsIn_wide.1 (callsIn_of_wp_marks hfn hb trivial (wpIn_mono (hx c hac w.heap.size none G _ w (fun _=>rfl) hrel) fun e a' w' ⟨x,tm',st',G',he,hr',hext,hq⟩=>?_))
        have fin:(match fh E tm' st' rs with | some vs=>K (pack vs) st' | none=>False)→ ∀G'' w'',Rel w.heap.size fn'.ntmps E G'' tm' st' {tmps:=a'.tmps,defers:=[]} w''→Ext G w G'' w''→ ∃v,(results fn' a'.tmps).run P w''= .ok v w''∧ ∃u r st'' G3,Ending.returned v= .returned u∧aU G3 r u∧aG E G3 st'' w''∧Ext G w G3 w''∧K r st'':=by
          intro hq G'' w'' hr'' hext''
          split at hq
          · rename_i rv hrv
            obtain ⟨us,hus,hrl⟩:=tc hr'' hrs hrv
            have hres:(results fn' a'.tmps).run P w''= .ok (if h:us.toArray.size=1 then us.toArray[0] else .tuple us.toArray) w'':=by
              rw [BR]
              simp only [Array.mapM_eq_mapM_toList,Sem.run_bind,Sem.run_map,hus,Result.andThen_ok,Sem.run_pure]
            exact ⟨_,hres,_,pack rv,st',G'',rfl,JQ hrl,hr''.st,hext'',hq⟩
          exact hq.elim
        rcases he.cases with ⟨rfl,rfl⟩ | ⟨i,rfl,rfl⟩ | ⟨rfl,rfl⟩
        · exact leaves (Nat.le_refl _) (fin hq) a'.defers G' w' hr' hext
        · exact hq.elim
        exact leaves (Nat.le_refl _) (fin hq) a'.defers G' w' hr' hext
      cases hf
    cases hf
  cases hf
end
end Go.Proofs.YtcidnoghoifmmaaDoor.AW
