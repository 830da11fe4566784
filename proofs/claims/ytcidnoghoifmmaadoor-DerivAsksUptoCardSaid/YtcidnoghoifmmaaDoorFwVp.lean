/-
  The abstract walk: statements that draw the order of their operations, told in another order: what is quiet goes ahead of what is loud.
-/
import Derived.Test.YtcidnoghoifmmaaDoorFwV
set_option linter.unusedSimpArgs false
set_option linter.unusedVariables false
namespace Go.Proofs.YtcidnoghoifmmaaDoor.AW
open Go

def oY (π :List Nat) (o:Oper):Oper:={o with after:=(o.after.filter (fun e=> π.contains e.on)).map (fun e=>{e with on:= π.idxOf e.on}),guard:=o.guard.map (fun p=>(π.idxOf p.1,p.2))}
def dS (ops:Array Oper) (π :List Nat):Array Oper:=(π.filterMap fun i=>(ops[i]?).map (oY π)).toArray

def oH (ops:Array Oper) (π :List Nat):Bool:=ops.toList.all fun o=>match o.guard with | some p=> π.contains p.1 | none=>true

structure gH (n:Nat) (π :List Nat):Prop where
 nodup: π.Nodup
 lt: ∀i∈ π,i<n

section
variable {ops:Array Oper} {π :List Nat}

theorem kL (hp:gH ops.size π): ∀l:List Nat,(∀i∈l,i<ops.size)→ ∀f:Oper→Oper,(l.filterMap fun i=>(ops[i]?).map f)=l.map fun i=>f (ops[i]?.getD default)
  | [],_,_=>rfl
  | i::l,h,f=>by
    have hi:=h i List.mem_cons_self
    have e:ops[i]? =some ops[i]:=by simp [hi]
    rw [List.filterMap_cons,e]
    simp only [Option.map_some,List.map_cons,Option.getD_some]
    rw [kL hp l (fun j hj=>h j (List.mem_cons_of_mem _ hj)) f]
    rw [e];rfl
theorem jO (hp:gH ops.size π) {i:Nat} {o:Oper} (hm:i∈ π) (ho:ops[i]? =some o):(dS ops π)[π.idxOf i]? =some (oY π o):=by
 have hl: π.idxOf i < π.length:=List.idxOf_lt_length_iff.2 hm
 unfold dS
 rw [kL hp π hp.lt]
 simp only [List.getElem?_toArray,List.getElem?_map,List.getElem?_eq_getElem hl,Option.map_some,List.getElem_idxOf]
 rw [ho];rfl
theorem oT (hp:gH ops.size π):(dS ops π).size= π.length:=by
 unfold dS
 rw [kL hp π hp.lt]
 simp
theorem yj (hp:gH ops.size π) {k:Nat} {o':Oper} (h:(dS ops π)[k]? =some o'): ∃i o,i∈ π ∧ops[i]? =some o∧ π.idxOf i=k∧o'=oY π o:=by
 have hk:k < π.length:=by
  have:=(Array.getElem?_eq_some_iff.1 h).1
  rw [oT hp] at this;exact this
 have hm:=List.getElem_mem hk
 have hi:=hp.lt _ hm
 have ho:ops[π[k]]? =some ops[π[k]]:=by simp [hi]
 have hx: π.idxOf π[k]=k:=hp.nodup.idxOf_getElem k hk
 have:=jO hp hm ho
 rw [hx,h] at this
 cases this
 exact ⟨_,_,hm,ho,hx,rfl⟩
def kZ (n:Nat) (π :List Nat) (L L':Array Bool):Prop:=L.size=n∧L'.size= π.length∧(∀i∈ π,L'.getD (π.idxOf i) false=L.getD i false)∧ ∀i,i<n→i∉ π →L.getD i false=true

theorem LN {i j:Nat} (hi:i∈ π) (hj:j∈ π) (h: π.idxOf i= π.idxOf j):i=j:=by
 have h1: π.idxOf i < π.length:=List.idxOf_lt_length_iff.2 hi
 have h2: π.idxOf j < π.length:=List.idxOf_lt_length_iff.2 hj
 have e1: π[π.idxOf i]=i:=List.getElem_idxOf h1
 have e2: π[π.idxOf j]=j:=List.getElem_idxOf h2
 rw [←e1,←e2]
 simp only [h]
theorem kZ.VE (hp:gH ops.size π) {L L':Array Bool} (h:kZ ops.size π L L') {i:Nat} (hi:i∈ π):L'.getD (π.idxOf i) true=L.getD i true:=by
 have:=h.2.2.1 i hi
 have h1: π.idxOf i<L'.size:=by rw [h.2.1];exact List.idxOf_lt_length_iff.2 hi
 have h2:i<L.size:=by rw [h.1];exact hp.lt i hi
 simpa [h1,h2] using this
theorem kZ.set (hp:gH ops.size π) {L L':Array Bool} (h:kZ ops.size π L L') {i:Nat} (hi:i∈ π):kZ ops.size π (L.setIfInBounds i true) (L'.setIfInBounds (π.idxOf i) true):=by
 refine ⟨by simpa using h.1,by simpa using h.2.1,fun j hj=>?_,fun j hj hn=>?_⟩
 ·by_cases e:i=j
  ·subst e
   have h1: π.idxOf i<L'.size:=by rw [h.2.1];exact List.idxOf_lt_length_iff.2 hi
   have h2:i<L.size:=by rw [h.1];exact hp.lt i hi
   simp [h1,h2]
  have ne: π.idxOf i≠ π.idxOf j:=fun e'=>e (LN hi hj e')
  have:=h.2.2.1 j hj
  simpa [Array.getElem?_setIfInBounds_ne ne,Array.getElem?_setIfInBounds_ne e] using this
 have e:i≠j:=fun e=>hn (e▸hi)
 have:=h.2.2.2 j hj hn
 simpa [Array.getElem?_setIfInBounds_ne e] using this
theorem kZ.mem {L L':Array Bool} (h:kZ ops.size π L L') {i:Nat} (hi:i<ops.size) (hu:L.getD i true=false):i∈ π :=by
 by_cases hm:i∈ π
 ·exact hm
 have h1:=h.2.2.2 i hi hm
 have h2:i<L.size:=by rw [h.1];exact hi
 simp [h2] at h1 hu
 rw [h1] at hu;cases hu
theorem tU (hp:gH ops.size π) {L L':Array Bool} (h:kZ ops.size π L L') {md:Region.Mode} {i:Nat} (hi:i∈Region.ready md ops L):i∈ π ∧ π.idxOf i∈Region.ready md (dS ops π) L':=by
 obtain ⟨h1,o,ho,h2⟩:=mem_ready.1 hi
 have hlt:i<ops.size:=(Array.getElem?_eq_some_iff.1 ho).1
 have hm:=h.mem hlt h1
 refine ⟨hm,mem_ready.2 ⟨by rw [h.VE hp hm];exact h1,_,jO hp hm ho,fun e he hb=>?_⟩⟩
 simp only [oY,Array.mem_map,Array.mem_filter] at he
 obtain ⟨e0,⟨he0,hc⟩,rfl⟩:=he
 have hb0:Region.binds md e0=true:=hb
 show L'.getD (π.idxOf e0.on) false=true
 rw [h.2.2.1 _ (by simpa using hc)]
 exact h2 e0 he0 hb0
theorem mA (hp:gH ops.size π) {L L':Array Bool} (h:kZ ops.size π L L') (hr: ∀(i:Nat) o,ops[i]? =some o→ ∀e∈o.after,e.on<ops.size) {md:Region.Mode} {k:Nat} (hk:k∈Region.ready md (dS ops π) L'): ∃i,i∈Region.ready md ops L∧ π.idxOf i=k:=by
 obtain ⟨h1,o',ho',h2⟩:=mem_ready.1 hk
 obtain ⟨i,o,hm,ho,rfl,rfl⟩:=yj hp ho'
 refine ⟨i,mem_ready.2 ⟨by rw [←h.VE hp hm];exact h1,o,ho,fun e he hb=>?_⟩,rfl⟩
 by_cases hme:e.on∈ π
 ·rw [←h.2.2.1 _ hme]
  refine h2 {e with on:= π.idxOf e.on} ?_ hb
  simp only [oY,Array.mem_map,Array.mem_filter]
  exact ⟨e,⟨he,by simpa using hme⟩,rfl⟩
 exact h.2.2.2 _ (hr i o ho e he) hme
theorem Du (hp:gH ops.size π) {L L':Array Bool} (h:kZ ops.size π L L') {md:Region.Mode} (e:Region.ready md (dS ops π) L'=[]):Region.ready md ops L=[]:=by
  cases hr:Region.ready md ops L with
  | nil=>rfl
  | cons i l=>
    have:=(tU hp h (show i∈Region.ready md ops L by rw [hr];exact List.mem_cons_self)).2
    rw [e] at this;cases this
theorem xI (hp:gH ops.size π) (tmps:Array Value) {j:Nat} (hj:j∈ π):yielded (dS ops π) tmps (π.idxOf j)=yielded ops tmps j:=by
 have hlt:=hp.lt j hj
 have ho:ops[j]? =some ops[j]:=by simp [hlt]
 simp only [yielded,jO hp hj ho,ho,Option.bind_some,oY]
theorem zQ (hp:gH ops.size π) (hg:oH ops π =true) {i:Nat} {o:Oper} (ho:ops[i]? =some o) (tmps:Array Value):Region.wanted (oY π o) (yielded (dS ops π) tmps)=Region.wanted o (yielded ops tmps):=by
  cases hgo:o.guard with
  | none=>simp [Region.wanted,oY,hgo]
  | some p=>
    obtain ⟨j,b⟩:=p
    have hm:o∈ops.toList:=by
      have:=Array.mem_of_getElem? ho
      simpa using this
    have:=List.all_eq_true.1 hg o hm
    rw [hgo] at this
    simp [Region.wanted,oY,hgo,xI hp tmps (show j∈ π by simpa using this)]
theorem sA {P:Program} {ro:Option Nat} {md:Region.Mode} {Q:Exit→Act→World→Prop} (hp:gH ops.size π) (hg:oH ops π =true): ∀(f:Nat) (L L':Array Bool) (a:Act) (w:World),kZ ops.size π L L'→(Region.ready md ops L=[]→Region.ready md (dS ops π) L'=[])→
    (∀(i:Nat) o,ops[i]? =some o→ ∀e∈o.after,e.on<ops.size)→
    wpAnyIn (jW ro) 0 P md (dS ops π) Q f L' a w→wpAnyIn (jW ro) 0 P md ops Q f L a w
  | 0,L,L',a,w,h,hn,hr,hw=>⟨Du hp h hw.1,hw.2⟩
  | f+1,L,L',a,w,h,hn,hr,hw=>by
    refine ⟨fun e=>hw.1 (hn e),fun i hi=>?_⟩
    obtain ⟨hm,hi'⟩:=tU hp h hi
    have hlt:=hp.lt i hm
    have ho:ops[i]? =some ops[i]:=by simp [hlt]
    have h1:=hw.2 _ hi'
    have hs:=h.set hp hm
    have hn':Region.ready md ops (L.setIfInBounds i true)=[]→Region.ready md (dS ops π) (L'.setIfInBounds (π.idxOf i) true)=[]:=fun e=>by
      cases hr':Region.ready md (dS ops π) (L'.setIfInBounds (π.idxOf i) true) with
      | nil=>rfl
      | cons k l=>
        obtain ⟨j,hj,_⟩:=mA hp hs hr (show k∈Region.ready md (dS ops π) (L'.setIfInBounds (π.idxOf i) true) by rw [hr'];exact List.mem_cons_self)
        rw [e] at hj;cases hj
    unfold wpOpIn at h1 ⊢
    rw [jO hp hm ho] at h1
    rw [ho]
    simp only at h1 ⊢
    rw [zQ hp hg ho] at h1
    split
    · rename_i hwt
      rw [if_pos hwt] at h1
      exact Oper.wpIn_mono (fun a w hh=>sA hp hg f _ _ a w hs hn' hr hh) h1
    rename_i hwt
    rw [if_neg hwt] at h1
    exact ⟨fun _ _=>trivial,sA hp hg f _ _ _ w hs hn' hr h1.2⟩
def wH (ops:Array Oper):Bool:=ops.toList.all fun o=>o.after.toList.all fun e=>Nat.blt e.on ops.size
theorem wI (h:wH ops=true): ∀(i:Nat) o,ops[i]? =some o→ ∀e∈o.after,e.on<ops.size:=fun i o ho e he=>by
 have hm:o∈ops.toList:=by
  have:=Array.mem_of_getElem? ho
  simpa using this
 have:=List.all_eq_true.1 (List.all_eq_true.1 h o hm) e (by simpa using he)
 exact Nat.le_of_ble_eq_true this
end

def mO (ops:Array Oper) (i:Nat):Bool:=
 match ops[i]? with
 | some o=>(match o.op with | .move _=>true | _=>false)&&o.guard.isNone&&o.after.isEmpty&&o.dst.isSome&&
  ((List.range ops.size).all fun j=>Nat.beq j i||(match ops[j]? with
   | some oj=>(oj.after.any fun e=>Region.binds .any e&&Nat.beq e.on i)||o.apart ops oj
   | none=>true))
 | none=>false
def firsts (ops:Array Oper):List Nat:=(List.range ops.size).filter fun i=>mO ops i&&ops.toList.all fun o=>match o.guard with | some p=> !Nat.beq p.1 i | none=>true

def qE (ops:Array Oper):List Nat→Act→Act
  | [],a=>a
  | i::l,a=>qE ops l (match ops[i]? with
    | some o=>match o.op with
      | .move x=>a.put o.dst (a.eval x)
      | _=>a
    | none=>a)
def lU:List Nat→Array Bool→Array Bool
 | [],L=>L
 | i::l,L=>lU l (L.setIfInBounds i true)

theorem uf {P:Program} {ops:Array Oper} {Q:Exit→Act→World→Prop} (hsel: ∀(j:Nat) (o:Oper) cs b,ops[j]? =some o→o.op≠ .select cs b) (hQ: ∀c a w,¬Q (.panic c) a w):
    ∀(l:List Nat) (f:Nat) (L:Array Bool) (a:Act) (w:World),l.Nodup→(∀i∈l,mO ops i=true∧L.getD i true=false)→wpAnyIn (jW none) 0 P .any ops Q f (lU l L) (qE ops l a) w→wpAnyIn (jW none) 0 P .any ops Q (f+l.length) L a w
  | [],f,L,a,w,_,_,h=>h
  | i::l,f,L,a,w,hnd,hf,h=>by
    obtain ⟨h1,h2⟩:=hf i List.mem_cons_self
    unfold mO at h1
    cases ho:ops[i]? with
    | none=>rw [ho] at h1;cases h1
    | some o=>
      rw [ho] at h1
      simp only [Bool.and_eq_true,List.all_eq_true,List.mem_range,Bool.or_eq_true] at h1
      obtain ⟨⟨⟨⟨q1,q2⟩,q3⟩,q4⟩,q5⟩:=h1
      cases hop:o.op<;>rw [hop] at q1<;>first | (cases q1;done) | skip
      rename_i x
      have hg:o.guard=none:=by simpa using q2
      have hy:YieldsFenced P ops o (a.eval x) a:=⟨.inl ⟨by simp [Region.wanted,hg],fun w=>by simp only [execOp,hop];rfl⟩,fun w=>by simp only [Oper.about,hop]⟩
      have hr:i∈Region.ready .any ops L:=mem_ready.2 ⟨h2,o,ho,fun e he _=>by
        have:o.after= #[]:=by simpa using q3
        rw [this] at he;simp at he⟩
      rw [List.length_cons,←Nat.add_assoc]
      refine wpAnyIn_first rfl ho hsel (fun c a w hh=>absurd hh (hQ c _ w)) _ _ _ _ (fun j oj hoj hji hun hfree=>?_) hr hy ?_
      · have hlt:j<ops.size:=(Array.getElem?_eq_some_iff.1 hoj).1
        rcases q5 j hlt with e | e
        · exact absurd (Nat.eq_of_beq_eq_true e) hji
        rw [hoj] at e
        have e:((oj.after.any fun e=>Region.binds .any e&&Nat.beq e.on i)||o.apart ops oj)=true:=e
        rcases (Bool.or_eq_true _ _).mp e with e | e
        · obtain ⟨e0,he0,hb⟩:=Array.any_eq_true'.1 e
          simp only [Bool.and_eq_true] at hb
          exact absurd (Nat.eq_of_beq_eq_true hb.2) (hfree e0 he0 hb.1)
        exact e
      refine uf hsel hQ l f _ _ w (List.nodup_cons.1 hnd).2 (fun k hk=>?_) ?_
      · obtain ⟨k1,k2⟩:=hf k (List.mem_cons_of_mem _ hk)
        refine ⟨k1,?_⟩
        have hne:i≠k:=fun e=>(List.nodup_cons.1 hnd).1 (e▸hk)
        simpa [Array.getElem?_setIfInBounds_ne hne] using k2
      simpa only [qE,lU,ho,hop] using h
theorem uw {n:Nat}: ∀(l:List Nat) (L:Array Bool),L.size=n→(lU l L).size=n∧(∀i,i<n→i∈l→(lU l L).getD i false=true)∧(∀i,i∉l→(lU l L).getD i false=L.getD i false)
  | [],L,h=>⟨h,fun i _ hi=>(by cases hi),fun i _=>rfl⟩
  | k::l,L,h=>by
    obtain ⟨h1,h2,h3⟩:=uw l (L.setIfInBounds k true) (by simpa using h)
    refine ⟨h1,fun i hi hm=>?_,fun i hi=>?_⟩
    · by_cases hl:i∈l
      · exact h2 i hi hl
      have e:i=k:=by
        rcases List.mem_cons.1 hm with e | e
        · exact e
        exact absurd e hl
      subst e
      show (lU l (L.setIfInBounds i true)).getD i false=true
      rw [h3 i hl]
      simp [h,hi]
    have hne:k≠i:=fun e=>hi (e▸List.mem_cons_self)
    show (lU l (L.setIfInBounds k true)).getD i false=_
    rw [h3 i fun hm=>hi (List.mem_cons_of_mem _ hm)]
    simp [Array.getElem?_setIfInBounds_ne hne]
def Iq (o:bZ):Bool:= !(o.quiet&&(match o.ins with | .plain (.store _ _ _)=>false | .plain _=>true | _=>false))
def Az (ops:Array Oper) (al:List bZ) (i:Nat):Bool:=
 (match al[i]? with | some o=>Iq o | none=>false)||(List.range i).any fun j=>(match al[j]? with | some o=>Iq o | none=>false)&&Nat.testBit ((qF ops.toList 0 []).getD (ops.size-1-i) 0) j
def oR (ops:Array Oper) (al:List bZ) (fs:List Nat):List Nat:=(List.range ops.size).filter (fun i=> !fs.contains i&& !Az ops al i)++(List.range ops.size).filter (fun i=> !fs.contains i&&Az ops al i)
theorem BL (ops:Array Oper) (al:List bZ) (fs:List Nat):gH ops.size (oR ops al fs)∧ ∀i,i<ops.size→(i∈oR ops al fs↔i∉fs):=by
 refine ⟨⟨?_,fun i hi=>?_⟩,fun i hi=>?_⟩
 ·unfold oR
  refine List.nodup_append.2 ⟨List.nodup_range.filter _,List.nodup_range.filter _,fun a ha b hb e=>?_⟩
  subst e
  simp only [List.mem_filter,Bool.and_eq_true,Bool.not_eq_true'] at ha hb
  rw [ha.2.2] at hb
  exact Bool.noConfusion hb.2.2
 ·simp only [oR,List.mem_append,List.mem_filter,List.mem_range] at hi
  rcases hi with hi | hi<;>exact hi.1
 simp only [oR,List.mem_append,List.mem_filter,List.mem_range,Bool.and_eq_true,Bool.not_eq_true',List.contains_eq_mem,decide_eq_false_iff_not]
 cases h:Az ops al i<;>simp [hi]
theorem HX {P:Program} {ro:Option Nat} {ops:Array Oper} {π fs:List Nat} {Q:Exit→Act→World→Prop} (hp:gH ops.size π) (hall: ∀i,i<ops.size→(i∈ π ↔i∉fs)) (hg:oH ops π =true) (he:wH ops=true)
    (hsel: ∀(j:Nat) (o:Oper) cs b,ops[j]? =some o→o.op≠ .select cs b) (hQ: ∀c a w,¬Q (.panic c) a w) (hfn:fs.Nodup) (hff: ∀i∈fs,mO ops i=true) (hro:fs=[]∨ro=none) (a:Act) (w:World)
    (h:wpAnyIn (jW ro) 0 P .any (dS ops π) Q π.length (Array.replicate π.length false) (qE ops fs a) w):wpAnyIn (jW ro) 0 P .any ops Q ops.size (Array.replicate ops.size false) a w:=by
  have hfl: ∀i∈fs,i<ops.size:=fun i hi=>by
    have:=hff i hi
    unfold mO at this
    cases ho:ops[i]? with
    | none=>rw [ho] at this;cases this
    | some o=>exact (Array.getElem?_eq_some_iff.1 ho).1
  have hlen: π.length+fs.length=ops.size:=by
    have:(π ++fs).Perm (List.range ops.size):=(List.perm_ext_iff_of_nodup (List.nodup_append.2 ⟨hp.nodup,hfn,fun x hx y hy e=>by
      subst e
      exact (hall x (hfl x hy)).1 hx hy⟩) List.nodup_range).2 fun i=>by
        rw [List.mem_append,List.mem_range]
        constructor
        · rintro (h | h)
          · exact hp.lt i h
          exact hfl i h
        intro hi
        by_cases hm:i∈fs
        · exact .inr hm
        exact .inl ((hall i hi).2 hm)
    simpa using this.length_eq
  obtain ⟨l1,l2,l3⟩:=uw (n:=ops.size) fs (Array.replicate ops.size false) (by simp)
  have hs:kZ ops.size π (lU fs (Array.replicate ops.size false)) (Array.replicate π.length false):=by
    refine ⟨l1,by simp,fun i hi=>?_,fun i hi hn=>?_⟩
    · have hlt:=hp.lt i hi
      rw [l3 i ((hall i hlt).1 hi)]
      simp [hlt,List.idxOf_lt_length_iff.2 hi]
    refine l2 i hi ?_
    by_cases hm:i∈fs
    · exact hm
    exact absurd ((hall i hi).2 hm) hn
  have hr:=wI he
  have key:wpAnyIn (jW ro) 0 P .any ops Q π.length (lU fs (Array.replicate ops.size false)) (qE ops fs a) w:=by
    refine sA hp hg _ _ _ _ _ hs (fun e=>?_) hr h
    cases hr':Region.ready .any (dS ops π) (Array.replicate π.length false) with
    | nil=>rfl
    | cons k l=>
      obtain ⟨j,hj,_⟩:=mA hp hs hr (show k∈Region.ready .any (dS ops π) (Array.replicate π.length false) by rw [hr'];exact List.mem_cons_self)
      rw [e] at hj;cases hj
  rcases hro with rfl | rfl
  · simpa [←hlen,lU,qE] using key
  rw [←hlen]
  exact uf hsel hQ fs π.length (Array.replicate _ false) a w hfn (fun i hi=>⟨hff i hi,by simp [hlen,hfl i hi]⟩) (by rw [hlen];exact key)
def NY (ops:Array Oper):Bool:=ops.toList.all fun o=>match o.op with | .select _ _=>false | _=>true
theorem BH {ops:Array Oper} (h:NY ops=true): ∀(j:Nat) (o:Oper) cs b,ops[j]? =some o→o.op≠ .select cs b:=fun j o cs b ho e=>by
 have hm:o∈ops.toList:=by
  have:=Array.mem_of_getElem? ho
  simpa using this
 have:=List.all_eq_true.1 h o hm
 rw [e] at this;cases this
end Go.Proofs.YtcidnoghoifmmaaDoor.AW
