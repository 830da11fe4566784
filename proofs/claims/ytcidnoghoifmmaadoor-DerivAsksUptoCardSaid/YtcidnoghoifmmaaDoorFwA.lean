/-
  The words of the abstract walk: values as plain data, what they stand for in memory, and how memory may turn. Nothing of the program stands here.
-/
import Derived.Tactics
import Derived.Orders
import Derived.Below
import Derived.Laws.IdiomCopy
namespace Go.Proofs.YtcidnoghoifmmaaDoor.AW
open Go

inductive AV where
 | int (k:IntKind) (n:Int)
 | bool (b:Bool)
 | str (s:List UInt8)
 | agg (cs:List AV)
 | bt (vs:List AV)
 | ptr (id off:Nat)
 | aQ (cs:List AV)
 | fV (g off:Nat)
 | iF
 | sl (es:Nat) (xs:List AV) (tok:Option Nat)
 | aP
 | row (id es off len:Nat)
 | fn (f:FuncId) (caps:List AV)
 | cQ
 | mp (id:Nat)
 | lZ
 | ic
 | pS (id T n:Nat)
 | nR (id:Nat)
 deriving Inhabited

inductive Slot where
 | box (b:Nat)
 | tail (b lo hi n:Nat)
 | ia (b:Nat)
 | dead
 | bB
 deriving Inhabited

def Slot.blk:Slot→Option Nat
 | .box b=>some b
 | .tail b _ _ _=>some b
 | .ia b=>some b
 | .dead=>none
 | .bB=>none

structure Gh where
 slots:List Slot
 M:Nat→Nat→Option Value
 sh:Nat→Option (Nat × Nat):=fun _=>none

inductive Key where
 | s (l:List UInt8)
 | i (n:Int)
 deriving DecidableEq,Inhabited

inductive cz where
 | cells (cs:List AV)
 | tail (n:Nat) (t:Option Nat:=none)
 | map (kd:Option IntKind) (f:Key→Option AV) (n:Nat)
 | loop (N:Nat) (ps:List Nat) (assign body:Code) (tm:Nat→AV) (s:LoopState) (p:Option Code)
 | dead
 | bB
 | hid
 | uQ (l:List UInt8) (t:Nat)
 | lost
 deriving Inhabited

abbrev aA:=List cz
abbrev Fr:=Nat→AV

def AV.cells:AV→List AV
 | .agg cs=>cs
 | v=>[v]

def gB (G:Gh) (es n b o c:Nat):Option Nat→Prop
  | none=>True
  | some id=>match G.slots[id]? with
    | some (.tail b' lo hi m)=>n≤m∧(n=m→b'=b∧lo=o+n*es∧hi=o+c*es∧o=0)
    | some .bB=>False
    | some _=>True
    | none=>False

mutual
def aU (G:Gh):AV→Value→Prop
  | .int k n,u=>u= .int k n
  | .bool b,u=>u= .bool b
  | .str s,u=> ∃b:ByteArray,b.data.toList=s∧u= .string b
  | .agg cs,u=> ∃us:List Value,aW G cs us∧u= .agg us.toArray
  | .bt cs,u=> ∃us:List Value,aW G cs us∧u= .tuple us.toArray
  | .ptr id off,u=>match G.slots[id]? with
    | some (.box b)=>u= .pointer (some ⟨b,off,none⟩)
    | some .dead=> ∃a,u= .pointer a
    | _=>False
  | .aQ cs,u=> ∃(b o:Nat) (us:List Value),aW G cs us∧(∀j v,us[j]? =some v→G.M b (o+j)=some v)∧u= .pointer (some ⟨b,o,none⟩)
  | .fV g off,u=>u= .pointer (some ⟨g,off,none⟩)
  | .iF,u=>u= .pointer none
  | .sl es xs tok,u=> ∃b o c,dI G es b o xs∧xs.length≤c∧gB G es xs.length b o c tok∧ ∃sp:Option Nat,(sp=none∨c=0∧tok=none)∧u= .slice (some ⟨b,o,sp⟩) xs.length c
  | .aP,u=>u= .slice none 0 0
  | .row id es off len,u=>match G.slots[id]? with
    | some (.box b)=> ∃c e n,len≤c∧G.sh b=some (e,n)∧(off+c)*es≤n∧u= .slice (some ⟨b,off*es,none⟩) len c
    | some .dead=> ∃a l c,u= .slice a l c
    | _=>False
  | .fn f caps,u=> ∃us:List Value,aW G caps us∧u= .func (.func f) #[] us.toArray
  | .cQ,u=>u= .nilFunc
  | .mp id,u=>match G.slots[id]? with
    | some (.ia b)=>u= .map (some b)
    | some .dead=> ∃a,u= .map a
    | _=>False
  | .lZ,u=>u= .map none
  | .ic,u=>u= .nilIface
  | .pS id T n,u=>u= .pointer none∧(match G.slots[id]? with
    | some (.box b)=>G.sh b=some (T,n)
    | some .dead=>True
    | _=>False)
  | .nR id,u=>match G.slots[id]? with
    | some (.box b)=>u= .func (.yield b) #[] #[]
    | some .dead=> ∃b,u= .func (.yield b) #[] #[]
    | _=>False
def aW (G:Gh):List AV→List Value→Prop
 | [],us=>us=[]
 | v::vs,us=> ∃u us',us=u::us'∧aU G v u∧aW G vs us'
def dI (G:Gh) (es b o:Nat):List AV→Prop
 | []=>True
 | v::vs=>(∃u:Value,aU G v u∧u.cells.size=es∧ ∀j x,u.cells[j]? =some x→G.M b (o+j)=some x)∧dI G es b (o+es) vs
end

theorem aj {G:Gh}: ∀ {vs:List AV} {us:List Value},aW G vs us→us.length=vs.length
  | [],us,h=>by simp [aW] at h;simp [h]
  | v::vs,us,h=>by
    simp only [aW] at h
    obtain ⟨u,us',rfl,_,h⟩:=h
    simp [aj h]
theorem fP {G:Gh}: ∀ {vs:List AV} {us:List Value},aW G vs us→ ∀(i:Nat) (v:AV),vs[i]? =some v→ ∃u,us[i]? =some u∧aU G v u
  | [],us,h,i,v,hv=>by simp at hv
  | v::vs,us,h,0,v',hv=>by
    simp only [aW] at h
    obtain ⟨u,us',rfl,hr,h⟩:=h
    simp at hv;subst hv
    exact ⟨u,rfl,hr⟩
  | v::vs,us,h,i+1,v',hv=>by
    simp only [aW] at h
    obtain ⟨u,us',rfl,hr,h⟩:=h
    simp at hv
    simpa using fP h i v' hv
theorem rK {G:Gh}: ∀ {vs:List AV} {us:List Value},us.length=vs.length→(∀(i:Nat) v u,vs[i]? =some v→us[i]? =some u→aU G v u)→aW G vs us
  | [],us,h,_=>by simp [aW];exact List.eq_nil_of_length_eq_zero (by simpa using h)
  | v::vs,[],h,_=>by simp at h
  | v::vs,u::us,h,hr=>by
    simp only [aW]
    exact ⟨u,us,rfl,hr 0 v u rfl rfl,rK (by simpa using h) fun i v' u' hv hu=>hr (i+1) v' u' (by simpa using hv) (by simpa using hu)⟩
theorem dX {G:Gh}: ∀ {vs ws:List AV} {us xs:List Value},aW G vs us→aW G ws xs→aW G (vs++ws) (us++xs)
  | [],ws,us,xs,h,h'=>by simp only [aW] at h;subst h;simpa using h'
  | v::vs,ws,us,xs,h,h'=>by
    simp only [aW] at h
    obtain ⟨u,us',rfl,hr,h⟩:=h
    simp only [List.cons_append,aW]
    exact ⟨u,us'++xs,rfl,hr,dX h h'⟩
theorem dO {G:Gh} {vs:List AV} {us:List Value} (n:Nat) (h:aW G vs us):aW G (vs.take n) (us.take n):=by
 refine rK (by simp [aj h]) fun i v u hv hu=>?_
 rw [List.getElem?_take] at hv hu
 split at hv
 ·rename_i hi
  rw [if_pos hi] at hu
  obtain ⟨u',hu',hr⟩:=fP h i v hv
  rw [hu'] at hu;cases hu;exact hr
 cases hv
theorem dN {G:Gh} {vs:List AV} {us:List Value} (n:Nat) (h:aW G vs us):aW G (vs.drop n) (us.drop n):=by
 refine rK (by simp [aj h]) fun i v u hv hu=>?_
 rw [List.getElem?_drop] at hv hu
 obtain ⟨u',hu',hr⟩:=fP h _ v hv
 rw [hu'] at hu;cases hu;exact hr
theorem JY {G:Gh} {vs:List AV} {us:List Value} (n:Nat) {v:AV} {u:Value} (h:aW G vs us) (hr:aU G v u):aW G (vs.set n v) (us.set n u):=by
 refine rK (by simp [aj h]) fun i v' u' hv hu=>?_
 rw [List.getElem?_set] at hv hu
 split at hv
 ·rename_i hi
  rw [if_pos hi,aj h] at hu
  split at hv
  ·rename_i hl;rw [if_pos hl] at hu;cases hv;cases hu;exact hr
  cases hv
 rename_i hi
 rw [if_neg hi] at hu
 obtain ⟨u'',hu'',hr'⟩:=fP h i v' hv
 rw [hu''] at hu;cases hu;exact hr'
theorem rL {G:Gh} {v:AV} {u:Value} (h:aU G v u) (hv: ∀cs,v≠ .agg cs):u.cells= #[u]:=by
 cases v
 case agg cs=>exact absurd rfl (hv cs)
 case ptr id off=>
  simp only [aU] at h
  split at h
  ·subst h;rfl
  ·obtain ⟨a,rfl⟩:=h;rfl
  exact h.elim
 case row id es off len=>
  simp only [aU] at h
  split at h
  ·obtain ⟨c,_,_,_,_,_,rfl⟩:=h;rfl
  ·obtain ⟨a,l,c,rfl⟩:=h;rfl
  exact h.elim
 case mp id=>
  simp only [aU] at h
  split at h
  ·subst h;rfl
  ·obtain ⟨a,rfl⟩:=h;rfl
  exact h.elim
 case pS id T n=>
  simp only [aU] at h
  obtain ⟨rfl,_⟩:=h;rfl
 case nR id=>
  simp only [aU] at h
  split at h
  ·subst h;rfl
  ·obtain ⟨a,rfl⟩:=h;rfl
  exact h.elim
 all_goals
  simp only [aU] at h
  first
   | (subst h;rfl)
   | (obtain ⟨_,_,rfl⟩:=h;rfl)
   | (obtain ⟨_,_,_,_,_,rfl⟩:=h;rfl)
   | (obtain ⟨_,_,_,_,_,_,_,_,rfl⟩:=h;rfl)
   | (obtain ⟨_,_,_,_,_,_,rfl⟩:=h;rfl)
theorem gh {G:Gh} {v:AV} {u:Value} (h:aU G v u):aW G v.cells u.cells.toList:=by
 by_cases hv: ∃cs,v= .agg cs
 ·obtain ⟨cs,rfl⟩:=hv
  simp only [aU] at h
  obtain ⟨us,h,rfl⟩:=h
  simpa [AV.cells,Value.cells] using h
 have hv': ∀cs,v≠ .agg cs:=fun cs e=>hv ⟨cs,e⟩
 rw [rL h hv']
 have:v.cells=[v]:=by cases v<;>first | rfl | exact absurd rfl (hv' _)
 rw [this]
 simp only [aW]
 exact ⟨u,[],rfl,h,rfl⟩
structure cj (G G':Gh):Prop where
 sh: ∀b x,G.sh b=some x→G'.sh b=some x
 M: ∀b o u,G.M b o=some u→G'.M b o=some u
 len:G.slots.length≤G'.slots.length
 box: ∀(i b:Nat),G.slots[i]? =some (Slot.box b)→G'.slots[i]? =some (Slot.box b)∨G'.slots[i]? =some Slot.dead
 ia: ∀(i b:Nat),G.slots[i]? =some (Slot.ia b)→G'.slots[i]? =some (Slot.ia b)∨G'.slots[i]? =some Slot.dead
 dead: ∀(i:Nat),G.slots[i]? =some Slot.dead→G'.slots[i]? =some Slot.dead
 tail: ∀(i b lo hi n:Nat),G.slots[i]? =some (Slot.tail b lo hi n)→G'.slots[i]? =some Slot.dead∨ ∃b' lo' hi' n',G'.slots[i]? =some (Slot.tail b' lo' hi' n')∧n≤n'∧(n=n'→b'=b∧lo'=lo∧hi'=hi)

theorem cj.refl (G:Gh):cj G G:=
 ⟨fun _ _ h=>h,fun _ _ _ h=>h,Nat.le_refl _,fun _ _ h=>.inl h,fun _ _ h=>.inl h,fun _ h=>h,fun _ b lo hi n h=>.inr ⟨b,lo,hi,n,h,Nat.le_refl _,fun _=>⟨rfl,rfl,rfl⟩⟩⟩
theorem cj.trans {A B C:Gh} (h:cj A B) (k:cj B C):cj A C where
 sh b x hx:=k.sh b x (h.sh b x hx)
 M b o u hu:=k.M b o u (h.M b o u hu)
 len:=Nat.le_trans h.len k.len
 box i b hb:=by
  rcases h.box i b hb with h' | h'
  ·exact k.box i b h'
  exact .inr (k.dead i h')
 ia i b hb:=by
  rcases h.ia i b hb with h' | h'
  ·exact k.ia i b h'
  exact .inr (k.dead i h')
 dead i hd:=k.dead i (h.dead i hd)
 tail i b lo hi n ht:=by
  rcases h.tail i b lo hi n ht with h' | ⟨b',lo',hi',n',h',hn,he⟩
  ·exact .inl (k.dead i h')
  rcases k.tail i b' lo' hi' n' h' with k' | ⟨b'',lo'',hi'',n'',k',kn,ke⟩
  ·exact .inl k'
  refine .inr ⟨b'',lo'',hi'',n'',k',Nat.le_trans hn kn,fun e=>?_⟩
  have e1:n=n':=by omega
  have e2:n'=n'':=by omega
  obtain ⟨a,b,c⟩:=he e1
  obtain ⟨a',b',c'⟩:=ke e2
  exact ⟨a'.trans a,b'.trans b,c'.trans c⟩
theorem gB.mono {G G':Gh} (hg:cj G G') {es n b o c:Nat} {tok:Option Nat} (h:gB G es n b o c tok):gB G' es n b o c tok:=by
  cases tok with
  | none=>trivial
  | some id=>
    simp only [gB] at h ⊢
    have hid:id<G.slots.length:=by
      rcases Nat.lt_or_ge id G.slots.length with h' | h'
      · exact h'
      rw [List.getElem?_eq_none h'] at h;exact h.elim
    have hs:G.slots[id]? =some (G.slots[id]):=by simp
    generalize G.slots[id]=s at hs
    rw [hs] at h
    cases s with
    | box b'=>rcases hg.box id b' hs with h' | h'<;>simp [h']
    | ia b'=>rcases hg.ia id b' hs with h' | h'<;>simp [h']
    | dead=>simp [hg.dead id hs]
    | bB=>exact h.elim
    | tail b' lo hi m=>
      simp only at h
      rcases hg.tail id b' lo hi m hs with h' | ⟨b'',lo',hi',n',h',hn,he⟩
      · simp [h']
      rw [h']
      simp only
      refine ⟨by omega,fun e=>?_⟩
      obtain ⟨a,b,c⟩:=he (by omega)
      obtain ⟨a',b',c',d'⟩:=h.2 (by omega)
      exact ⟨a.trans a',b.trans b',c.trans c',d'⟩
mutual
theorem aU.mono {G G':Gh} (hg:cj G G'): ∀ {v:AV} {u:Value},aU G v u→aU G' v u
  | .int _ _,_,h=>by simpa only [aU] using h
  | .bool _,_,h=>by simpa only [aU] using h
  | .str _,_,h=>by simpa only [aU] using h
  | .agg cs,_,h=>by
    simp only [aU] at h ⊢
    obtain ⟨us,h,e⟩:=h
    exact ⟨us,aW.mono hg h,e⟩
  | .bt cs,_,h=>by
    simp only [aU] at h ⊢
    obtain ⟨us,h,e⟩:=h
    exact ⟨us,aW.mono hg h,e⟩
  | .ptr id off,u,h=>by
    simp only [aU] at h ⊢
    split at h
    · rename_i b hb
      rcases hg.box id b hb with h' | h'<;>rw [h']
      · exact h
      exact ⟨_,h⟩
    · rename_i hb;rw [hg.dead id hb];exact h
    exact h.elim
  | .aQ cs,u,h=>by
    simp only [aU] at h ⊢
    obtain ⟨b,o,us,h,hm,e⟩:=h
    exact ⟨b,o,us,aW.mono hg h,fun j v hv=>hg.M _ _ _ (hm j v hv),e⟩
  | .fV _ _,_,h=>by simpa only [aU] using h
  | .iF,_,h=>by simpa only [aU] using h
  | .sl es xs tok,u,h=>by
    simp only [aU] at h ⊢
    obtain ⟨b,o,c,h,hl,ht,e⟩:=h
    exact ⟨b,o,c,dI.mono hg h,hl,ht.mono hg,e⟩
  | .aP,_,h=>by simpa only [aU] using h
  | .row id es off len,u,h=>by
    simp only [aU] at h ⊢
    split at h
    · rename_i b hb
      rcases hg.box id b hb with h' | h'<;>rw [h']
      · obtain ⟨c,e,n,h1,h2,h3,h4⟩:=h
        exact ⟨c,e,n,h1,hg.sh _ _ h2,h3,h4⟩
      obtain ⟨c,e,n,_,_,_,h⟩:=h;exact ⟨_,_,_,h⟩
    · rename_i hb;rw [hg.dead id hb];exact h
    exact h.elim
  | .fn f caps,u,h=>by
    simp only [aU] at h ⊢
    obtain ⟨us,h,e⟩:=h
    exact ⟨us,aW.mono hg h,e⟩
  | .cQ,_,h=>by simpa only [aU] using h
  | .mp id,u,h=>by
    simp only [aU] at h ⊢
    split at h
    · rename_i b hb
      rcases hg.ia id b hb with h' | h'<;>rw [h']
      · exact h
      exact ⟨_,h⟩
    · rename_i hb;rw [hg.dead id hb];exact h
    exact h.elim
  | .lZ,_,h=>by simpa only [aU] using h
  | .ic,_,h=>by simpa only [aU] using h
  | .pS id T n,u,h=>by
    simp only [aU] at h ⊢
    obtain ⟨h1,h2⟩:=h
    refine ⟨h1,?_⟩
    split at h2
    · rename_i b hb
      rcases hg.box id b hb with h' | h'<;>rw [h']
      · exact hg.sh _ _ h2
      trivial
    · rename_i hb;rw [hg.dead id hb];trivial
    exact h2.elim
  | .nR id,u,h=>by
    simp only [aU] at h ⊢
    split at h
    · rename_i b hb
      rcases hg.box id b hb with h' | h'<;>rw [h']
      · exact h
      exact ⟨_,h⟩
    · rename_i hb;rw [hg.dead id hb];exact h
    exact h.elim
theorem aW.mono {G G':Gh} (hg:cj G G'): ∀ {vs:List AV} {us:List Value},aW G vs us→aW G' vs us
  | [],_,h=>by simpa only [aW] using h
  | v::vs,us,h=>by
    simp only [aW] at h ⊢
    obtain ⟨u,us',e,hr,h⟩:=h
    exact ⟨u,us',e,aU.mono hg hr,aW.mono hg h⟩
theorem dI.mono {G G':Gh} (hg:cj G G') {es b:Nat}: ∀ {o:Nat} {xs:List AV},dI G es b o xs→dI G' es b o xs
  | _,[],_=>by simp only [dI]
  | o,v::vs,h=>by
    simp only [dI] at h ⊢
    obtain ⟨⟨u,hr,hs,hm⟩,h⟩:=h
    exact ⟨⟨u,aU.mono hg hr,hs,fun j x hx=>hg.M _ _ _ (hm j x hx)⟩,dI.mono hg h⟩
end
end Go.Proofs.YtcidnoghoifmmaaDoor.AW
