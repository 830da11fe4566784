/-
  The abstract walk: maps; a slice of bytes turned to its own type.
-/
import Derived.Test.YtcidnoghoifmmaaDoorFwM
import Derived.MapKept
set_option linter.unusedSimpArgs false
set_option linter.unusedVariables false
namespace Go.Proofs.YtcidnoghoifmmaaDoor.AW
open Go

section
variable {P:Program} {E:bA} {G:Gh} {st:aA} {w:World}

theorem iK {r:Nat} {es:Array MapEntry} {clock:Nat} (hb:w.heap[r]? =some (.map es clock)):(getObj r).run P w= .ok (.map es clock) w:=by
 simp [getObj,Sem.run,hb]
theorem oc {r:Nat} {es:Array MapEntry} {clock:Nat} (o:Obj) (hb:w.heap[r]? =some (.map es clock)):(setObj r o).run P w= .ok () {w with heap:=w.heap.setIfInBounds r o}:=by
 simp [setObj,Sem.run,hb]
theorem ur {kd:Option IntKind} {v:AV} {u:Value} {c:Key} (hr:aU G v u) (h:keyOf kd v=some c):dA kd u=some c:=by
  unfold keyOf at h
  split at h
  · rename_i s
    simp only [aU] at hr
    obtain ⟨b,hb,rfl⟩:=hr
    cases kd with
    | none=>simp only [Option.some.injEq] at h;subst h;subst hb;simp [dA]
    | some k=>cases h
  · rename_i k n
    simp only [aU] at hr
    subst hr
    cases kd with
    | none=>cases h
    | some k'=>
      simp only at h
      simp only [dA]
      exact h
  cases h
def rq (kd:Option IntKind) (d:TypeDesc):Prop:=(kd=none∧d= .string)∨ ∃k,kd=some k∧d= .int k

theorem uq {t:TypeId} {kd:Option IntKind} (h:yS P t=some kd): ∃d,P.underlying t=some d∧rq kd d:=by
 unfold yS at h
 split at h
 ·rename_i hd;cases h;exact ⟨_,hd,.inl ⟨rfl,rfl⟩⟩
 ·rename_i k hd;cases h;exact ⟨_,hd,.inr ⟨k,rfl,rfl⟩⟩
 cases h
theorem nj (a b:ByteArray):(a==b)=true↔a.data.toList=b.data.toList:=by
 rw [Go.MapKept.bytes_beq]
 constructor
 ·intro h;rw [h]
 intro h
 cases a with | mk a=>cases b with | mk b=>
  have:a=b:=Array.ext' h
  rw [this]
theorem wz {kd:Option IntKind} {d:TypeDesc} (hd:rq kd d) {x y:Value} {c:Key} (hx:dA kd x=some c) (hy:dA kd y≠none):Instr.sameNow d x y=some (decide (dA kd y=some c)):=by
 rcases hd with ⟨rfl,rfl⟩ | ⟨k,rfl,rfl⟩
 ·cases x<;>simp only [dA,reduceCtorEq,ite_self] at hx
  cases y<;>simp only [dA,ne_eq,not_true_eq_false,reduceCtorEq,not_false_eq_true] at hy ⊢
  rename_i a b
  simp only [Option.some.injEq] at hx
  subst hx
  simp only [Instr.sameNow,Option.some.injEq,Key.s.injEq]
  rw [Bool.eq_iff_iff,nj,decide_eq_true_iff]
  exact eq_comm
 cases x<;>simp only [dA,reduceCtorEq] at hx
 cases y<;>simp only [dA,ne_eq,not_true_eq_false,reduceCtorEq,not_false_eq_true] at hy ⊢
 rename_i k1 a k2 b
 split at hx
 ·rename_i e1
  split at hy
  ·rename_i e2
   subst e1;subst e2
   simp only [Option.some.injEq] at hx
   subst hx
   simp only [Instr.sameNow,if_true,Option.some.injEq,Key.i.injEq]
   rw [Bool.eq_iff_iff,beq_iff_eq,decide_eq_true_iff]
   exact eq_comm
  exact absurd rfl hy
 cases hx
theorem mh {kd:Option IntKind} {d:TypeDesc} (hd:rq kd d) {x:Value} {c:Key} (hx:dA kd x=some c): ∀(l:List MapEntry) (i:Nat),(∀e∈l,dA kd e.key≠none)→Instr.findNow d x l i=some (ef kd c l i)
  | [],i,_=>rfl
  | e::l,i,h=>by
    have he:=wz hd hx (h e (.head _))
    have ih:=mh hd hx l (i+1) fun y hy=>h y (.tail _ hy)
    simp only [Instr.findNow,he,ef,ih]
    by_cases hk:dA kd e.key=some c<;>simp [hk]
theorem oI {kd:Option IntKind} {d:TypeDesc} (hd:rq kd d) {x:Value} {c:Key} (hx:dA kd x=some c) {kt:TypeId} (hu:P.underlying kt=some d) (e:Bool) (n:Nat):(Instr.checkKey e (n+1) kt x).run P w= .ok () w:=by
 unfold Instr.checkKey
 simp only [Sem.run_bind,run_underlying hu,Result.andThen]
 rcases hd with ⟨rfl,rfl⟩ | ⟨k,rfl,rfl⟩<;>cases x<;>simp [dA] at hx ⊢
theorem gy {kd:Option IntKind} {d:TypeDesc} (hd:rq kd d) {x:Value} {c:Key} (hx:dA kd x=some c) {kt:TypeId} (hu:P.underlying kt=some d) {l:List MapEntry} (h: ∀e∈l,dA kd e.key≠none):(Instr.findKey kt x l).run P w= .ok (ef kd c l 0) w:=by
 simp [Instr.findKey,run_underlying hu,Result.andThen,mh hd hx l 0 h]
theorem sn {id:Nat} {kd:Option IntKind} {f:Key→Option AV} {n:Nat} {u:Value} (hs:aG E G st w) (hc:st[id]? =some (.map kd f n)) (hr:aU G (.mp id) u):
  ∃b es clock,u= .map (some b)∧G.slots[id]? =some (.ia b)∧w.heap[b]? =some (.map es clock)∧vi G es kd f n∧ ∀o u,G.M b o≠some u:=by
 have hidl:id<G.slots.length:=by rw [hs.len];exact aD hc
 have hob:=hs.obj id _ G.slots[id] hc (by simp [hidl])
 have hsl:G.slots[id]? =some G.slots[id]:=by simp [hidl]
 simp only [aU,hsl] at hr
 generalize G.slots[id]=s at hob hr hsl
 cases s<;>simp only [bl] at hob hr
 obtain ⟨⟨es,clock,h1,h2⟩,h3⟩:=hob
 exact ⟨_,es,clock,hr,hsl,h1,h2,h3⟩
theorem oO (kd:Option IntKind):vi G #[] kd (fun _=>none) 0:=by
 refine ⟨rfl,by simp,fun c=>?_⟩
 simp [ef,jR]
theorem zI {t:TypeId} {kd:Option IntKind} (hs:aG E G st w):bN P E (Instr.makeMap t none) w G (.mp st.length) (st++[.map kd (fun _=>none) 0]):=by
 have hnew: ∀o u,G.M w.heap.size o≠some u:=fun o u hu=>by have:=hs.cV hu;omega
 obtain ⟨h1,h2⟩:=oW hs (o:=.map kd (fun _=>none) 0) (s:=.ia w.heap.size) (M:=G.M) (x:=.map #[] 0) (fun _ _ _ h=>h) (fun _ _ _ h=>.inl h)
  (fun o u hu=>absurd hu (hnew o u)) (.inl rfl) ⟨⟨#[],0,Array.getElem?_push_size,oO kd⟩,hnew⟩
 refine ⟨.map (some w.heap.size),w.alloc (.map #[] 0),_,?_,?_,h1,h2⟩
 ·simp [Instr.makeMap,newObj,Sem.run]
 have:(G.push (.ia w.heap.size) G.M).slots[st.length]? =some (.ia w.heap.size):=by simp [Gh.push,←hs.len]
 simp only [aU,this]
theorem Bh {t:TypeId} {z:AV} (h:zeroV P t=some z): ∃u,(∀w,(zeroValue t).run P w= .ok u w)∧ ∀G,aU G z u:=by
 unfold zeroV at h
 split at h
 ·rename_i i hi
  split at h
  ·rename_i u hu
   exact ⟨u,fun w=>by simp [zeroValue,run_typeInfo hi,hu],fun G=>ld h⟩
  cases h
 cases h
theorem xG {t kt et:TypeId} {kd:Option IntKind} {z m k:AV} {u x:Value} {f:Key→Option AV} {c:Key} (ok:Bool) (hs:aG E G st w) (ht:P.underlying t=some (.map kt et)) (hk:yS P kt=some kd) (hz:zeroV P et=some z) (hm:aU G m u) (hx:aU G k x) (h1:mapOf kd st m=some f) (h2:keyOf kd k=some c):
  bN P E (Instr.lookup t u x ok) w G (qN ok z (f c)) st:=by
 obtain ⟨d,hd,hkd⟩:=uq hk
 obtain ⟨zu,hzr,hzu⟩:=Bh hz
 have hkx:=ur hx h2
 have rep: ∀(o:Option AV) (p:Option (Nat × Value)),jR G o p→aU G (qN ok z o) (match p with
    | some (_,v)=>if ok then .tuple #[v,.bool true] else v
    | none=>if ok then .tuple #[zu,.bool false] else zu):=by
  intro o p h
  cases o<;>cases p<;>simp only [jR] at h
  ·cases ok
   ·simpa [qN] using hzu G
   simp only [qN,if_true,aU,aW]
   exact ⟨[zu,.bool false],⟨zu,_,rfl,hzu G,_,_,rfl,rfl,rfl⟩,rfl⟩
  rename_i v p
  obtain ⟨i,v'⟩:=p
  cases ok
  ·simpa [qN] using h
  simp only [qN,if_true,aU,aW]
  exact ⟨[v',.bool true],⟨v',_,rfl,h,_,_,rfl,rfl,rfl⟩,rfl⟩
 unfold mapOf at h1
 split at h1
 ·cases h1
  simp only [aU] at hm
  subst hm
  refine bN.same hs (u:=if ok then .tuple #[zu,.bool false] else zu) ?_ (by simpa [ef] using rep none none trivial)
  have hf:=gy (P:=P) (w:=w) hkd hkx hd (l:=(#[]:Array MapEntry).toList) (by simp)
  simp only [Instr.lookup,Sem.run_bind,run_underlying ht,Result.andThen_ok,Sem.run_pure,oI hkd hkx hd,hf]
  simp [ef,hzr]
 ·rename_i id
  split at h1
  ·rename_i kd' f' n hc
   split at h1
   ·rename_i e
    subst e
    cases h1
    obtain ⟨b,es,clock,rfl,_,hb,hrel,_⟩:=sn hs hc hm
    obtain ⟨rfl,g2,g3⟩:=hrel
    refine bN.same hs ?_ (rep (f c) (ef kd' c es.toList 0) (g3 c))
    simp only [Instr.lookup,Sem.run_bind,run_underlying ht,Result.andThen_ok,iK hb,Sem.run_pure,oI hkd hkx hd,gy hkd hkx hd g2]
    cases ef kd' c es.toList 0 with
    | none=>simp [hzr]
    | some p=>obtain ⟨i,v⟩:=p;simp
   cases h1
  cases h1
 cases h1
theorem Cr {id b:Nat} {es es':Array MapEntry} {clock clock' n':Nat} {kd:Option IntKind} {f':Key→Option AV} (hs:aG E G st w) (hid:G.slots[id]? =some (.ia b)) (hb:w.heap[b]? =some (.map es clock)) (hM: ∀o u,G.M b o≠some u) (hrel:vi G es' kd f' n'):
  aG E G (st.set id (.map kd f' n')) {w with heap:=w.heap.setIfInBounds b (.map es' clock')}∧Ext G w G {w with heap:=w.heap.setIfInBounds b (.map es' clock')}:=by
 have hbl:b<w.heap.size:=(Array.getElem?_eq_some_iff.1 hb).1
 have key:=kU (M:=G.M) (s':=.ia b) (o':=.map kd f' n') (w':={w with heap:=w.heap.setIfInBounds b (.map es' clock')}) hs hid rfl rfl (.inl rfl) (fun k _ hk=>by simp [Ne.symm hk]) (by simp) rfl rfl rfl
  (fun e' n hx=>by
   obtain ⟨a2,f2,h1,h2⟩:=hs.jU b e' n hx
   rw [hb] at h1;cases h1)
  (by rw [dB hid];exact cj.refl G) (fun _ _ _ h'=>.inl h')
  (fun b' o u hu e=>by
   rcases e with rfl | e
   ·exact absurd hu (hM o u)
   have:=hs.cV hu;omega)
  (by rw [dB hid];exact ⟨⟨es',clock',by simp [hbl],hrel⟩,hM⟩)
 rwa [dB hid] at key
theorem oD {kd:Option IntKind} {c:Key} {e:MapEntry}: ∀(l:List MapEntry) (i:Nat),ef kd c (l++[e]) i=match ef kd c l i with
    | some r=>some r
    | none=>if dA kd e.key=some c then some (i+l.length,e.val) else none
  | [],i=>by simp [ef]
  | x::l,i=>by
    simp only [List.cons_append,ef]
    split
    · rfl
    rw [oD l (i+1)]
    cases ef kd c l (i+1)<;>simp only [List.length_cons]
    rw [show i+1+l.length=i+(l.length+1) by omega]
theorem oE {kd:Option IntKind} {c:Key} {k x:Value} (hk:dA kd k=some c): ∀(l:List MapEntry) (i j:Nat) (u:Value),ef kd c l i=some (i+j,u)→(∃e,l[j]? =some e∧dA kd e.key=some c)∧
    ∀c',ef kd c' (l.modify j fun e=>{e with key:=k,val:=x}) i=if c'=c then some (i+j,x) else ef kd c' l i
  | [],i,j,u,h=>by simp [ef] at h
  | e::l,i,j,u,h=>by
    simp only [ef] at h
    split at h
    · rename_i he
      simp only [Option.some.injEq,Prod.mk.injEq] at h
      have hj:j=0:=by omega
      subst hj
      refine ⟨⟨e,rfl,he⟩,fun c'=>?_⟩
      simp only [List.modify_zero_cons,ef,hk,he,Option.some.injEq]
      by_cases hc:c=c'
      · subst hc;simp
      simp [hc,Ne.symm hc]
    rename_i he
    have hge: ∀(l:List MapEntry) (i p:Nat) (u:Value),ef kd c l i=some (p,u)→i≤p:=by
      intro l
      induction l with
      | nil=>intro i p u h;simp [ef] at h
      | cons y l ih=>
        intro i p u h
        simp only [ef] at h
        split at h
        · cases h;exact Nat.le_refl _
        exact Nat.le_of_succ_le (ih _ _ _ h)
    have h0:=hge _ _ _ _ h
    obtain ⟨m,rfl⟩: ∃m,j=m+1:=⟨j-1,by omega⟩
    obtain ⟨⟨y,hy1,hy2⟩,ih⟩:=oE hk l (i+1) m u (by rw [h];congr 2;omega)
    refine ⟨⟨y,by simpa using hy1,hy2⟩,fun c'=>?_⟩
    simp only [List.modify_succ_cons,ef]
    rw [ih c']
    by_cases hc:c'=c
    · subst hc
      simp only [he,if_true,if_false]
      congr 2;omega
    simp only [hc,if_false]
theorem qM {kd:Option IntKind} {c:Key} {k x:Value} (hk:dA kd k=some c): ∀(l:List MapEntry) (j:Nat),(∀e∈l,dA kd e.key≠none)→ ∀e∈(l.modify j fun e=>{e with key:=k,val:=x}),dA kd e.key≠none
  | [],j,_,e,h=>by simp at h
  | y::l,0,h,e,he=>by
    simp only [List.modify_zero_cons,List.mem_cons] at he
    rcases he with rfl | he
    · simp [hk]
    exact h e (.tail _ he)
  | y::l,j+1,h,e,he=>by
    simp only [List.modify_succ_cons,List.mem_cons] at he
    rcases he with rfl | he
    · exact h e (.head _)
    exact qM hk l j (fun e he=>h e (.tail _ he)) e he
theorem uP {kd:Option IntKind} {c:Key} {x y:Value} (hx:dA kd x=some c) (hy:dA kd y=some c) (n:Nat):Instr.sameBits (n+1) x y=true:=by
 cases x<;>simp only [dA,reduceCtorEq] at hx<;>cases y<;>simp only [dA,reduceCtorEq] at hy
 ·cases kd<;>simp only [reduceCtorEq,Option.some.injEq] at hx hy
  split at hx<;>simp only [Option.some.injEq,reduceCtorEq] at hx
  split at hy<;>simp only [Option.some.injEq,reduceCtorEq] at hy
  subst_vars
  cases hy
  simp [Instr.sameBits, *]
 ·cases kd<;>simp only [reduceCtorEq,Option.some.injEq] at hx hy
 ·cases kd<;>simp only [reduceCtorEq,Option.some.injEq] at hx hy
 cases kd<;>simp only [reduceCtorEq,Option.some.injEq] at hx hy
 subst hx
 simp only [Key.s.injEq] at hy
 simp only [Instr.sameBits]
 exact (nj _ _).2 hy.symm
theorem oq {t kt et:TypeId} {kd:Option IntKind} {id n:Nat} {m k v:AV} {u x y:Value} {f:Key→Option AV} {c:Key} (hs:aG E G st w) (ht:P.underlying t=some (.map kt et)) (hk:yS P kt=some kd) (hm:aU G m u) (hmi:m= .mp id) (hx:aU G k x) (hy:aU G v y) (hc:st[id]? =some (.map kd f n)) (h2:keyOf kd k=some c):
    ∃w' G',(Instr.mapUpdate t u x y).run P w= .ok () w'∧aG E G' (st.set id (.map kd (mb f c v) (if (f c).isNone then n+1 else n))) w'∧Ext G w G' w':=by
  subst hmi
  obtain ⟨d,hd,hkd⟩:=uq hk
  have hkx:=ur hx h2
  obtain ⟨b,es,clock,rfl,hsl,hb,⟨rfl,g2,g3⟩,hM⟩:=sn hs hc hm
  have hfc:=g3 c
  cases hfe:ef kd c es.toList 0 with
  | none=>
    rw [hfe] at hfc
    have hf:f c=none:=by cases h:f c<;>rw [h] at hfc<;>simp only [jR] at hfc
    obtain ⟨k1,k2⟩:=Cr (clock':=clock+1) (n':=es.size+1) (f':=mb f c v) (es':=es.push {key:=x,val:=y,born:=clock}) hs hsl hb hM ⟨by simp,fun e he=>by
        simp only [Array.toList_push,List.mem_append,List.mem_singleton] at he
        rcases he with he | rfl
        · exact g2 e he
        · simp [hkx],fun c'=>by
        simp only [Array.toList_push,oD,hkx,mb,Option.some.injEq]
        by_cases e:c=c'
        · subst e
          simp only [hfe,if_true]
          exact hy
        simp only [Ne.symm e,if_false,e]
        have:=g3 c'
        cases hh:ef kd c' es.toList 0<;>rw [hh] at this<;>exact this⟩
    refine ⟨_,G,?_,by simpa [hf] using k1,k2⟩
    simp only [Instr.mapUpdate,Sem.run_bind,run_underlying ht,Result.andThen_ok,iK hb,oI hkd hkx hd,gy hkd hkx hd g2,hfe,oc _ hb]
  | some p=>
    obtain ⟨i,u0⟩:=p
    rw [hfe] at hfc
    obtain ⟨v0,hf⟩: ∃v0,f c=some v0:=by cases h:f c<;>rw [h] at hfc<;>simp only [jR] at hfc;exact ⟨_,rfl⟩
    obtain ⟨⟨e0,he0,hke0⟩,hmod⟩:=oE (kd:=kd) (c:=c) (k:=x) (x:=y) hkx es.toList 0 i u0 (by rw [hfe];simp)
    have hlist:(es.modify i fun e=>{e with key:=x,val:=y}).toList=es.toList.modify i fun e=>{e with key:=x,val:=y}:=by simp
    obtain ⟨k1,k2⟩:=Cr (clock':=clock) (n':=es.size) (f':=mb f c v) (es':=es.modify i fun e=>{e with key:=x,val:=y}) hs hsl hb hM ⟨by simp,fun e he=>by
        rw [hlist] at he
        exact qM hkx _ _ g2 e he,fun c'=>by
        rw [hlist,hmod c']
        simp only [mb]
        by_cases e:c'=c
        · simp only [e,if_true];exact hy
        simp only [e,if_false];exact g3 c'⟩
    refine ⟨_,G,?_,by simpa [hf] using k1,k2⟩
    have hes:es[i]? =some e0:=by simpa using he0
    have hsame:Instr.sameBits 10000 e0.key x=true:=uP hke0 hkx 9999
    simp only [Instr.mapUpdate,Sem.run_bind,run_underlying ht,Result.andThen_ok,iK hb,oI hkd hkx hd,gy hkd hkx hd g2,hfe,Instr.keyThatStays,hes,Option.map_some,Option.getD_some,hsame,if_true,Sem.run_pure,oc _ hb]
theorem BX {t kt et:TypeId} {ts:Array TypeId} {ty:TypeId} {v r:AV} {u:Value} (hs:aG E G st w) (hr:aU G v u) (h0:ts[0]? =some t) (ht:P.underlying t=some (.map kt et))
    (h:(match v with
      | .lZ=>some (AV.int .i64 0)
      | .mp id=>(match st[id]? with
        | some (.map _ _ n)=>some (.int .i64 n)
        | _=>none)
      | _=>none)=some r):bN P E (Builtin.len_ ts ty #[u]) w G r st:=by
  split at h
  · cases h
    simp only [aU] at hr
    subst hr
    exact bN.same hs (u:=.int .i64 0) (by simp [Builtin.len_,h0,run_underlying ht,goInt]) (gO _ _)
  · rename_i id
    split at h
    · rename_i kd f n hc
      cases h
      obtain ⟨b,es,clock,rfl,_,hb,⟨rfl,_,_⟩,_⟩:=sn hs hc hr
      exact bN.same hs (u:=.int .i64 es.size) (by simp [Builtin.len_,h0,run_underlying ht,goInt,iK hb]) (gO _ _)
    cases h
  cases h
theorem Dz {t e:TypeId} {es:Nat} {xs:List AV} {id n:Nat} {u:Value} (hs:aG E G st w) (hr:aU G (.sl es xs (some id)) u) (hc:st[id]? =some (.tail n)) (hn:n=xs.length) (ht:P.underlying t=some (.slice e)) (he:P.underlying e=some (.int .u8)):
  bN P E (convert t t u) w G (.sl es xs (some id)) st:=by
 have hr0:=hr
 simp only [aU] at hr
 obtain ⟨b,o,c,hrs,hlc,htok,sp,hsp,rfl⟩:=hr
 obtain rfl:sp=none:=by
  rcases hsp with h | h
  ·exact h
  cases h.2
 have hidl:id<G.slots.length:=by rw [hs.len];exact aD hc
 have hob:=hs.obj id _ G.slots[id] hc (by simp [hidl])
 have hsl:G.slots[id]? =some G.slots[id]:=by simp [hidl]
 simp only [gB,hsl] at htok
 generalize G.slots[id]=sl at hob hsl htok
 cases sl<;>simp only [bl] at hob
 rename_i b' lo hi m
 obtain ⟨rfl,hlohi,⟨arr,te,fz,p1,p2,p3,p5⟩,p4⟩:=hob
 simp only at htok
 obtain ⟨rfl,_,_⟩:=htok.2 hn.symm
 have hbl:b'<w.heap.size:=(Array.getElem?_eq_some_iff.1 p1).1
 obtain ⟨fz',hfz⟩: ∃fz',fz'=(if fz.1==fz.2 then (arr.size,arr.size+1) else (min fz.1 arr.size,max fz.2 (arr.size+1))):=⟨_,rfl⟩
 have hunf:Jy fz' arr.size:=by
  subst hfz
  right
  split
  ·exact Nat.le_refl _
  rename_i hne
  rcases p3 with h | h
  ·simp [h] at hne
  simp only [];omega
 have hw':(w.freeze ⟨b',arr.size,none⟩ 1).heap[b']? =some (.cells arr te fz'):=by
  simp only [World.freeze,Nat.succ_ne_zero,if_false,Array.getElem?_modify,if_true,p1,Option.map_some]
  obtain ⟨lo',hi'⟩:=fz
  rw [hfz]
 have hoth: ∀k,k≠b'→(w.freeze ⟨b',arr.size,none⟩ 1).heap[k]? =w.heap[k]? :=fun k hk=>by
  simp only [World.freeze,Nat.succ_ne_zero,if_false,Array.getElem?_modify]
  rw [if_neg (fun e=>hk e.symm)]
 have key:=kU (M:=G.M) (s':=.tail b' lo hi m) (o':=.tail m) (w':=w.freeze ⟨b',arr.size,none⟩ 1) hs hsl rfl rfl (.inl rfl) (fun k _ hk=>hoth k hk) (by simp [World.freeze]) rfl rfl rfl
  (fun e' n hx=>by
   obtain ⟨a2,f2,h1,h2⟩:=hs.jU b' e' n hx
   rw [p1] at h1;cases h1
   exact ⟨_,_,hw',h2⟩)
  (by rw [dB hsl];exact cj.refl G) (fun _ _ _ h'=>.inl h')
  (fun q o u hu e=>by
   refine ⟨?_,hs.one q o u hu⟩
   have hold:=hs.mem q o u hu
   rcases e with rfl | e
   ·simp only [World.cell?,p1,Option.isSome_none,Bool.false_eq_true,if_false] at hold
    simp only [World.cell?,hw',Option.isSome_none,Bool.false_eq_true,if_false]
    exact hold
   have:=hs.cV hu;omega)
  (by rw [dB hsl];exact ⟨rfl,hlohi,⟨arr,te,fz',hw',p2,hunf,p5⟩,p4⟩)
 rw [dB hsl] at key
 have hst:st.set id (.tail m)=st:=by
  apply List.ext_getElem?
  intro i
  by_cases e:id=i
  ·subst e;rw [List.getElem?_set_self (by rw [←hs.len];exact hidl),hc]
  rw [List.getElem?_set_ne e]
 rw [hst] at key
 refine ⟨_,w.freeze ⟨b',arr.size,none⟩ 1,G,?_,hr0,key.1,key.2⟩
 have hsh:w.shape? b'=some (te,arr.size):=by simp [World.shape?,p1]
 simp [convert,run_underlying ht,run_underlying he,markStringish,hsh]
end
end Go.Proofs.YtcidnoghoifmmaaDoor.AW
