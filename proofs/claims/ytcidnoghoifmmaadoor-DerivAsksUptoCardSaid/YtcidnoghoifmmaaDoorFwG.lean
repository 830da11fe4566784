/-
  The abstract walk: what each operation of the program's does is what its plain operation says (third part).
-/
import Derived.Test.YtcidnoghoifmmaaDoorFwF
import Derived.Lib.ConvBytes
import Derived.Laws.BytesArg
import Derived.Laws.BytesString
import Derived.Laws.Strings2
import Derived.Laws.IdiomStrings
namespace Go.Proofs.YtcidnoghoifmmaaDoor.AW
open Go

section
variable {P:Program} {E:bA} {G:Gh} {st:aA} {w:World}

theorem rN {G:Gh} (s:ByteArray) {l:List UInt8} (h:s.data.toList=l):aU G (.str l) (.string s):=by
 simp only [aU];exact ⟨s,h,rfl⟩
theorem Jj {op:UnOp} {x:AV} {u:Value} {v:AV} (hs:aG E G st w) (hr:aU G x u)
  (h:(match (generalizing:=false) op,x with
   | .neg,.int k n=>some (AV.int k (k.wrap (0-n)))
   | .xor,.int k n=>some (.int k (k.wrap (BitVec.ofInt k.bits (if k.signed then -1 else k.max) ^^^ BitVec.ofInt k.bits n).toNat))
   | .not,.bool b=>some (.bool (!b))
   | _,_=>none)=some v):bN P E (Op.unary op u) w G v st:=by
 cases op<;>cases x<;>simp only [reduceCtorEq,Option.some.injEq] at h
 all_goals
  simp only [aU] at hr
  subst hr
  subst h
 ·exact bN.same hs (by simp only [Op.unary,Op.intArith,Sem.run_pure]) (gO _ _)
 ·exact bN.same hs (by simp only [Op.unary,Op.intBits,Sem.run_pure]) (gO _ _)
 exact bN.same hs (by simp only [Op.unary,Sem.run_pure]) (mD _)
theorem EA {src dst:TypeId} {k k' k'':IntKind} {n:Int} (hs:aG E G st w) (h1:P.underlying src=some (.int k')) (h2:P.underlying dst=some (.int k)):
  bN P E (convert src dst (.int k'' n)) w G (.int k (k.wrap n)) st:=
 bN.same hs (by simp only [convert,Sem.run_bind,run_underlying h1,run_underlying h2,Result.andThen_ok,Conv.intToInt,Sem.run_pure]) (gO _ _)
theorem EB {src dst:TypeId} {s:ByteArray} {l:List UInt8} (hs:aG E G st w) (hl:s.data.toList=l) (h1:P.underlying src=some .string) (h2:P.underlying dst=some .string):
  bN P E (convert src dst (.string s)) w G (.str l) st:=
 bN.same hs (u:=.string s) (by simp only [convert,Sem.run_bind,run_underlying h1,run_underlying h2,Result.andThen_ok,Sem.run_pure]) (rN s hl)
theorem vF {es b o:Nat}: ∀ {xs:List AV},dI G es b o xs→(∀x∈xs,∀cs,x≠ .agg cs)→ ∃us,aW G xs us∧(xs≠[]→es=1)∧ ∀j v,us[j]? =some v→G.M b (o+j*es)=some v
  | [],_,_=>⟨[],by simp [aW],fun h=>absurd rfl h,fun j v h=>by simp at h⟩
  | x::xs,h,hx=>by
    simp only [dI] at h
    obtain ⟨⟨u,hr,hz,hm⟩,h⟩:=h
    obtain ⟨us,hu,_,hk⟩:=vF h fun y hy=>hx y (by simp [hy])
    have hc:=rL hr (hx x (by simp))
    refine ⟨u::us,by simp only [aW];exact ⟨u,us,rfl,hr,hu⟩,fun _=>by rw [hc] at hz;simpa using hz.symm,fun j v hv=>?_⟩
    cases j with
    | zero=>
      simp at hv;subst hv
      have:=hm 0 u (by rw [hc];rfl)
      simpa using this
    | succ j=>
      have:=hk j v (by simpa using hv)
      rw [←this]
      congr 1
      rw [Nat.add_mul];omega
theorem sH: ∀ {xs:List AV} {bs:List UInt8},bytesOf xs=some bs→ ∃ns:List Int,xs=ns.map (AV.int .u8)∧bs=ns.map fun n=>UInt8.ofNat n.toNat
  | [],bs,h=>by simp [bytesOf] at h;subst h;exact ⟨[],rfl,rfl⟩
  | x::xs,bs,h=>by
    simp only [bytesOf,List.mapM_cons,Option.bind_eq_bind,Option.bind_eq_some_iff,Option.pure_def,Option.some.injEq] at h
    obtain ⟨b,hb,bs',hbs,rfl⟩:=h
    obtain ⟨ns,rfl,rfl⟩:=sH hbs
    unfold AV.toByte at hb
    split at hb
    · cases hb;exact ⟨_::ns,rfl,rfl⟩
    cases hb
theorem pZ: ∀ {ns:List Int} {k:IntKind} {us:List Value},aW G (ns.map (AV.int k)) us→us=ns.map (Value.int k)
  | [],_,us,h=>by simpa [aW] using h
  | n::ns,k,us,h=>by
    simp only [List.map_cons,aW,aU] at h
    obtain ⟨u,us',rfl,rfl,h⟩:=h
    simp [pZ h]
theorem Dx {src dst e:TypeId} {x:AV} {u:Value} {xs:List AV} {bs:List UInt8} (hs:aG E G st w) (hr:aU G x u) (he:jI st x=some xs) (hb:bytesOf xs=some bs)
  (h1:P.underlying src=some (.slice e)) (h2:P.underlying dst=some .string) (h3:P.underlying e=some (.int .u8)):
  bN P E (convert src dst u) w G (.str bs) st:=by
 obtain ⟨ns,rfl,rfl⟩:=sH hb
 have hcv: ∀a l c,(convert src dst (.slice a l c)).run P w=(Conv.bytesToString (.slice a l c)).run P w:=fun a l c=>run_convert_bytes_string w src dst e a l c h1 h3 h2
 have fin: ∀(a:Addr) (c:Nat),(loadCells a ns.length).run P w= .ok (ns.map (Value.int .u8)).toArray w→bN P E (convert src dst (.slice (some a) ns.length c)) w G (.str (ns.map fun n=>UInt8.ofNat n.toNat)) st:=fun a c hl=>by
  refine bN.same hs ((hcv _ _ _).trans (run_bytesToString w a ns.length c ns hl)) ?_
  rw [foldl_push_bytes]
  exact rN _ (by simp)
 unfold jI at he
 split at he
 ·simp only [aU] at hr
  subst hr
  have:ns=[]:=by
   cases ns with
   | nil=>rfl
   | cons n ns=>simp at he
  subst this
  refine bN.same hs (u:=.string .empty) ?_ (rN _ rfl)
  rw [hcv]
  simp [Conv.bytesToString]
 ·rename_i es xs' tok
  simp only [Option.some.injEq] at he
  subst he
  simp only [aU] at hr
  obtain ⟨b,o,c,hrs,hlc,_,sp,hsp,rfl⟩:=hr
  obtain ⟨us,hu,h1',hm⟩:=vF hrs (by intro y hy cs;simp at hy;obtain ⟨n,_,rfl⟩:=hy;simp)
  have hus:=pZ hu
  subst hus
  rw [List.length_map]
  refine fin _ _ ?_
  by_cases hn:ns=[]
  ·subst hn;simp [loadCells,loadCellsFrom]
  obtain rfl:sp=none:=by
   rcases hsp with h | h
   ·exact h
   have:0<ns.length:=List.length_pos_iff.2 hn
   simp at hlc;omega
  have h1':=h1' (by simpa using hn)
  have:=dc (P:=P) (w:=w) (b:=b) (o:=o) (us:=ns.map (Value.int .u8)) fun j v hv=>hs.mem _ _ _ (by have:=hm j v hv;rw [h1',Nat.mul_one] at this;exact this)
  simpa using this
 ·rename_i id es off len
  split at he
  ·rename_i cs hc
   split at he
   ·rename_i hl
    obtain ⟨rfl,hl⟩:=hl
    simp only [Option.some.injEq] at he
    have hidl:id<G.slots.length:=by rw [hs.len];exact aD hc
    have hob:=hs.obj id _ G.slots[id] hc (by simp [hidl])
    simp only [aU,List.getElem?_eq_getElem hidl] at hr
    generalize G.slots[id]=s at hob hr
    cases s<;>simp only [bl] at hob hr
    rename_i b
    obtain ⟨⟨arr,e',fz,k1,k2,k3,k4⟩,_⟩:=hob
    obtain ⟨c,_,_,_,_,_,rfl⟩:=hr
    have hlen:len=ns.length:=by
     have:=congrArg List.length he
     simp at this
     omega
    subst hlen
    rw [Nat.mul_one]
    refine fin _ _ ?_
    rw [jP k1 (by omega)]
    have k5:=dO ns.length (dN off k3)
    rw [he] at k5
    have k6:=pZ k5
    rw [←k6]
    congr 2
    rw [List.drop_take,List.take_take]
    congr 1
    omega
   cases he
  cases he
 cases he
theorem mV {arr:Array Value} {e:TypeId} {fz:Nat × Nat} {w₁ :World} {k n:Nat} (hs:aG E G st w) (hw:w₁.heap.size=w.heap.size+1) (hh: ∀b:Nat,b<w.heap.size→w₁.heap[b]? =w.heap[b]?)
  (hx:w₁.heap[w.heap.size]? =some (.cells arr e fz)) (hos:w₁.os=w.os) (ht:w₁.tape=w.tape) (hout:w₁.output=w.output) (hk:k≤arr.size) (hfz:Jy fz arr.size) (h1c: ∀(j:Nat) v,j<k→arr[j]? =some v→v.oneCell'=true) (t:Option Nat:=none) (hty:Kf t e:=by intro T h;cases h):
  ∃G',aG E G' (st++[.tail n t]) w₁ ∧Ext G w G' w₁ ∧G'.slots[st.length]? =some (.tail w.heap.size k arr.size n)∧ ∀j v,j<k→arr[j]? =some v→G'.M w.heap.size j=some v:=by
 have hnone: ∀o u,G.M w.heap.size o≠some u:=fun o u hu=>by have:=hs.cV hu;omega
 let M:Nat→Nat→Option Value:=fun b o=>if b=w.heap.size then (if o<k then arr[o]? else none) else G.M b o
 have hcell: ∀o u,M w.heap.size o=some u→(w.alloc (.cells arr e fz)).cell? ⟨w.heap.size,o,none⟩=some u∧u.oneCell'=true:=by
  intro o u hu
  simp only [M,if_true] at hu
  split at hu
  ·rename_i ho
   exact ⟨by rw [World.cell?_alloc_mark];exact hu,h1c o u ho hu⟩
  cases hu
 obtain ⟨h1,h2⟩:=oW hs (o:=.tail n t) (s:=.tail w.heap.size k arr.size n) (M:=M) (x:=.cells arr e fz)
  (fun b o u hu=>by
   have hne:b≠w.heap.size:=fun e'=>hnone o u (e'▸hu)
   simp [M,hne,hu])
  (fun b o u hu=>by
   by_cases hb:b=w.heap.size
   ·exact .inr hb
   simp [M,hb] at hu;exact .inl hu)
  hcell (.inl rfl) ⟨rfl,hk,⟨arr,e,fz,Array.getElem?_push_size,Nat.le_refl _,hfz,hty⟩,fun o u ho hu=>by
   simp only [Gh.push,M,if_true] at hu
   rw [if_neg (by omega)] at hu
   cases hu⟩
 -- the same in the world as it is
 have hblk: ∀b:Nat,w₁.heap[b]? =(w.alloc (.cells arr e fz)).heap[b]? :=by
  intro b
  rcases Nat.lt_trichotomy b w.heap.size with hb | rfl | hb
  ·rw [hh b hb,Go.RowKit.Below.heap_alloc w _ b hb]
  ·rw [hx]
   exact Array.getElem?_push_size.symm
  rw [Array.getElem?_eq_none (by omega),Array.getElem?_eq_none (by simp;omega)]
 refine ⟨G.push (.tail w.heap.size k arr.size n) M,⟨h1.len,fun i o s ho hs'=>?_,h1.apart,fun b o u hu=>?_,h1.one,fun b e n hx=>by
  obtain ⟨arr2,fz2,z1,z2⟩:=h1.jU b e n hx
  exact ⟨arr2,fz2,by rw [hblk b];exact z1,z2⟩,h1.gG⟩,⟨h2.g,hos,ht,hout,by omega,fun b hb _=>hh b hb,h2.uM,h2.sx⟩,by simp [Gh.push,←hs.len],fun j v hj hv=>?_⟩
 ·exact (h1.obj i o s ho hs').keep (cj.refl _) (fun b _=>hblk b) fun _ _ _ _ h=>h
 ·rw [←h1.mem b o u hu]
  exact World.cell?_of_block (w:=w.alloc (.cells arr e fz)) (w':=w₁) (a:=⟨b,o,none⟩) (hblk b)
 simp [Gh.push,M,hj,hv]
theorem mw {es b:Nat} {arr:List Value} (hm: ∀j v,arr[j]? =some v→G.M b j=some v): ∀(xs:List AV) (us:List Value) (o:Nat),us.length=xs.length→
    (∀(i:Nat) x u,xs[i]? =some x→us[i]? =some u→aU G x u∧u.cells.size=es∧ ∀j y,u.cells[j]? =some y→arr[o+i*es+j]? =some y)→dI G es b o xs
  | [],_,_,_,_=>by simp only [dI]
  | x::xs,[],_,h,_=>by simp at h
  | x::xs,u::us,o,h,hx=>by
    simp only [dI]
    obtain ⟨h1,h2,h3⟩:=hx 0 x u rfl rfl
    refine ⟨⟨u,h1,h2,fun j y hy=>hm _ _ (by have:=h3 j y hy;simpa using this)⟩,?_⟩
    refine mw hm xs us (o+es) (by simpa using h) fun i x' u' hx' hu'=>?_
    obtain ⟨k1,k2,k3⟩:=hx (i+1) x' u' (by simpa using hx') (by simpa using hu')
    refine ⟨k1,k2,fun j y hy=>?_⟩
    have:=k3 j y hy
    rw [Nat.add_mul,Nat.one_mul] at this
    rwa [show o+es+i*es+j=o+(i*es+es)+j by omega]
end
end Go.Proofs.YtcidnoghoifmmaaDoor.AW
